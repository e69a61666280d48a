/- Which loops a function has, as the program and the reference say it. -/
import Derived.Test.YteeigkbjjoedoacAP3a
import Derived.Test.YteeigkbjjoedoacARow6
set_option linter.unusedVariables false
set_option linter.unusedSimpArgs false
namespace Go.Proofs.Yteeigkbjjoedoac
open Go.Abs
section
variable {f : FU} {m : MP} {o : List Nat} {ov : List Int}
theorem Od.inn (hf : FOk f m) (ho : Od f o) {k : Nat} (hk : k ∈ o) : k < f.2.1.length := ((ho.mem k).1 hk).lt hf
theorem c35_ok' (hf : FOk f m) (ho : Od f o) (hD : Dt f o ov) {a b : Nat} (hbo : b ∈ o) {k : Bool → Prop} (h1 : An ov a b → k true) (h2 : ¬ An ov a b → k false) : c35 ov (a : Int) (b : Int) k := by
  constructor
  constructor
  intro I hI
  have key : ∀ N c, ix o c < N → c ∈ o → (An ov a c → k true) → (¬ An ov a c → k false) → I ov (a : Int) (c : Int) := by
    intro N
    induction N with
    | zero => intro _ w; exact absurd w (by omega)
    | succ N ih =>
      intro c hN hc g1 g2
      refine hI _ _ _ (brD (by omega) (brN (fun hne => ?_) fun he => ?_))
      · have hne' : a ≠ c := fun e => hne (by rw [e])
        rcases hD.1.val c (ho.inn hf hc) with hv | ⟨q, hq⟩
        · have : ¬ An ov a c := fun w => by
            cases w with
            | rf => exact hne' rfl
            | up hq _ =>
              unfold Ov at hq
              rw [hv] at hq
              have := Option.some.inj hq
              omega
          refine needS (by rw [at?_nat]; exact hv) (hI _ _ _ (brDn (by decide) ?_))
          have e : ((a : Int) == (-1 : Int)) = false := by simp
          show k ((a : Int) == (-1 : Int))
          rw [e]; exact g2 this
        · obtain ⟨l1, l2, _⟩ := hD.1.low c q hq
          refine needS (by rw [at?_nat]; exact hq) (ih q (by omega) l2 (fun w => g1 (.up hq w)) fun w => g2 fun w2 => ?_)
          cases w2 with
          | rf => exact hne' rfl
          | up hq' hx => rw [hq.fn hq'] at w; exact w hx
      · have e : a = c := by omega
        subst e
        show k ((a : Int) == (a : Int))
        rw [beq_self_eq_true]; exact g1 .rf
  exact key _ b (Nat.lt_succ_self _) hbo h1 h2
end
theorem c34_ok' {f : FU} (hz : Szu f) {k : Int → List Int → Prop} (h0 : fErr f ≠ 0 → k (fErr f) []) (h1 : fErr f = 0 → ∀ m, FOk f m → AllU f → ∀ o ov, Od f o → Dt f o ov → k 0 ov) : c34 f k := by
  constructor
  exact c47_ok hz h0 fun e m hf hU o ov ho hD => h1 e m hf hU o ov ho hD
theorem c5_ok {f : FU} (hz : Szu f) {k : Bool → Prop} (h1 : f.2.1.length ≤ 12 → k true) (h2 : k false) : c5 f k := by
  constructor
  refine brP (fun w => c15_ok hz ?_) fun _ => h2
  cases decide (frsh f ≤ 200)
  · exact h2
  · exact h1 (by omega)
theorem c38_ok {a b : Int} {k : Bool → Prop} (h : k (decide (a < b))) : c38 a b k := by
  constructor
  constructor
  refine brF (by simp) ?_
  exact h
theorem l55r4_ok {s2 s3 v : Int} {k : Int → Int → Int → List Int → Prop} {C : List Int} : ∀ (N : Nat) (A B : List Int), A.length = N → (A ++ B).Pairwise (· ≤ ·) → (∀ b ∈ B, v < b) → A.length ≤ 1000 →
    (∀ S : List Int, S.Pairwise (· ≤ ·) → S.Perm (A ++ v :: B) → k 0 s2 s3 (S ++ C)) → l55r4 k 0 s2 s3 (A.length : Int) (A ++ v :: (B ++ C)) := by
  intro N0 A0 B0 hA0 hs0 hB0 hl0 h0
  constructor
  intro I hI
  have key : ∀ (N : Nat) (A B : List Int), A.length = N → (A ++ B).Pairwise (· ≤ ·) → (∀ b ∈ B, v < b) → A.length ≤ 1000 → (∀ S : List Int, S.Pairwise (· ≤ ·) → S.Perm (A ++ v :: B) → k 0 s2 s3 (S ++ C)) → I 0 s2 s3 (A.length : Int) (A ++ v :: (B ++ C)) := by
    intro N
    induction N with
    | zero =>
      intro A B hA hs hB hl h
      obtain rfl := List.eq_nil_of_length_eq_zero hA
      refine hI _ _ _ _ _ (brDn (by simp) ?_)
      have := h (v :: B) (List.pairwise_cons.2 ⟨fun b hb => Int.le_of_lt (hB b hb), by simpa using hs⟩) (List.Perm.refl _)
      simpa using this
    | succ N ih =>
      intro A B hA hs hB hl h
      obtain ⟨A', u, rfl⟩ : ∃ A' u, A = A' ++ [u] := ⟨A.dropLast, A.getLast (by intro e; rw [e] at hA; cases hA), (List.dropLast_concat_getLast _).symm⟩
      have hA' : A'.length = N := by simpa using hA
      have e1 : ((A' ++ [u]).length : Int) = ((N + 1 : Nat) : Int) := by rw [hA]
      have hw : IntKind.wrap .i64 (((N + 1 : Nat) : Int) - 1) = (N : Int) := by rw [wrap64 (by omega) (by omega)]; omega
      have gj : (A' ++ [u] ++ v :: (B ++ C))[N + 1]? = some v := by rw [List.getElem?_append_right (by omega), hA, Nat.sub_self]; rfl
      have gi : (A' ++ [u] ++ v :: (B ++ C))[N]? = some u := by rw [List.getElem?_append_left (by omega), List.getElem?_append_right (by omega), hA', Nat.sub_self]; rfl
      have hlen : (A' ++ [u] ++ v :: (B ++ C)).length = N + 2 + (B ++ C).length := by simp [hA']; omega
      refine hI _ _ _ _ _ ?_
      rw [e1, hw, Int.toNat_natCast, Int.toNat_natCast]
      refine brD (by omega) (brD (by omega) (needS gj (brD (by omega) (needS gi (c38_ok (brP (fun w => ?_) fun w => ?_))))))
      · refine brD (by omega) (needS gi (brD (by omega) (needS gj (brD (by omega) (needS gj (brT (eqT_self _ _) (brT (eqT_self _ _) (brD (by rw [List.length_set]; omega) (needNth (by rw [List.length_set]; omega) ?_)))))))))
        have es : ((A' ++ [u] ++ v :: (B ++ C)).set (N + 1) u).set N v = A' ++ v :: ((u :: B) ++ C) := by
          rw [List.set_append_right _ _ (by omega), hA, Nat.sub_self, List.set_cons_zero, List.append_assoc, List.set_append_right _ _ (by omega), hA', Nat.sub_self]
          rfl
        rw [es]
        have := ih A' (u :: B) hA' (by rw [List.append_assoc] at hs; exact hs) (fun b hb => by
          rcases List.mem_cons.1 hb with rfl | hb
          · exact w
          · exact hB b hb) (by omega) (fun S h1 h2 => h S h1 (h2.trans ?_))
        · rw [hA'] at this; exact this
        · rw [List.append_assoc]
          exact (List.Perm.swap _ _ _).append_left A'
      · have := h (A' ++ [u] ++ v :: B) (by
          rw [List.pairwise_append] at hs ⊢
          obtain ⟨h1, h2, h3⟩ := hs
          refine ⟨h1, List.pairwise_cons.2 ⟨fun b hb => Int.le_of_lt (hB b hb), h2⟩, fun a ha b hb => ?_⟩
          rcases List.mem_cons.1 hb with rfl | hb
          · rw [List.pairwise_append] at h1
            rcases List.mem_append.1 ha with ha | ha
            · have := h1.2.2 a ha u (List.mem_singleton_self _); omega
            · rw [List.mem_singleton.1 ha]; omega
          · exact h3 a ha b hb) (List.Perm.refl _)
        rw [List.append_assoc, List.cons_append] at this
        exact this
  exact key N0 A0 B0 hA0 hs0 hB0 hl0 h0
theorem l55r1_ok {xs : List Int} (hl : xs.length ≤ 12) {k : List Int → Prop} (h : ∀ ys : List Int, ys.Pairwise (· ≤ ·) → ys.Perm xs → k ys) : l55r1 k 0 (xs.length : Int) (IntKind.wrap .i64 (0 + 1)) xs := by
  have w1 : IntKind.wrap .i64 ((0 : Int) + 1) = ((1 : Nat) : Int) := by decide +kernel
  rw [w1]
  constructor
  intro I hI
  have key := upInd (N := xs.length) (M := fun i => ∀ S : List Int, S.Pairwise (· ≤ ·) → S.Perm (xs.take i) → I 0 (xs.length : Int) (i : Int) (S ++ xs.drop i))
    (fun S h1 h2 => hI _ _ _ _ (brDn (by omega) (by
      rw [List.take_length] at h2
      rw [List.drop_length, List.append_nil]
      exact h S h1 h2)))
    (fun i hi ih S h1 h2 => by
      have hSl : S.length = i := by rw [h2.length_eq, List.length_take]; omega
      refine hI _ _ _ _ (brD (by omega) ?_)
      rw [drop_cons hi]
      have := l55r4_ok (s2 := (xs.length : Int)) (s3 := (i : Int)) (v := xs[i]) (k := fun z5 z6 z7 z8 => I z5 z6 (IntKind.wrap .i64 (z7 + 1)) z8) (C := xs.drop (i + 1)) S.length S [] rfl (by rw [List.append_nil]; exact h1) (fun b hb => by cases hb) (by omega) (fun S' g1 g2 => by
        show I 0 _ (IntKind.wrap .i64 ((i : Int) + 1)) _
        rw [wrapS (n := i) (by omega)]
        refine ih S' g1 ?_
        rw [List.take_succ_eq_append_getElem hi]
        exact g2.trans (h2.append_right _))
      rw [hSl] at this
      exact this)
  by_cases e : xs.length = 0
  · refine hI _ _ _ _ (brDn (by omega) ?_)
    have := List.eq_nil_of_length_eq_zero e
    subst this
    exact h [] List.Pairwise.nil (List.Perm.refl _)
  · have h1 : 0 < xs.length := by omega
    have := key 1 (by omega) (xs.take 1) (by
      cases xs with
      | nil => cases h1
      | cons a r => simp) (List.Perm.refl _)
    rwa [List.take_append_drop] at this
theorem c42_ok {n : Nat} (hn : n ≤ 12) {k : Int → Prop} (h : ∀ v, k v) : c42 (IntKind.wrap .u64 (n : Int)) k := by
  have e : IntKind.wrap .u64 (n : Int) = (n : Int) := by simp [IntKind.wrap, IntKind.signed, IntKind.bits]; omega
  have e2 : IntKind.wrap .u8 (n : Int) = (n : Int) := by simp [IntKind.wrap, IntKind.signed, IntKind.bits]; omega
  rw [e]
  constructor
  constructor
  refine brDn (by omega) (brDn (by omega) (brDn (by omega) ?_))
  rw [e2]
  exact needAt (Nat.lt_of_le_of_lt hn (by decide +kernel)) (h _)
theorem c21_ok {xs : List Int} (hl : xs.length ≤ 12) {k : List Int → Prop} (h : ∀ ys : List Int, ys.Pairwise (· ≤ ·) → ys.Perm xs → k ys) : c21 xs k := by
  constructor
  refine c42_ok hl fun v => ?_
  constructor
  constructor
  intro I hI
  refine hI _ _ _ _ _ _ (brD ?_ ?_)
  · rw [wrap64 (by omega) (by omega)]; omega
  · constructor
    exact l55r1_ok hl h
theorem perm_eq : ∀ {l l' : List Int}, l.Pairwise (· ≤ ·) → l'.Pairwise (· ≤ ·) → l.Perm l' → l = l'
  | [], l', _, _, h => (List.Perm.nil_eq h)
  | a :: r, [], _, _, h => absurd h.length_eq (by simp)
  | a :: r, b :: r', h1, h2, h => by
    rw [List.pairwise_cons] at h1 h2
    have e : a = b := by
      have ha : a ∈ b :: r' := h.subset (List.mem_cons_self ..)
      have hb : b ∈ a :: r := h.symm.subset (List.mem_cons_self ..)
      rcases List.mem_cons.1 ha with e | ha
      · exact e
      · rcases List.mem_cons.1 hb with e | hb
        · exact e.symm
        · have := h1.1 b hb; have := h2.1 a ha; omega
    subst e
    rw [perm_eq h1.2 h2.2 (List.Perm.cons_inv h)]
open Classical in
noncomputable def sel (n : Nat) (Q : Nat → Prop) : List Nat := (List.range n).filter fun k => decide (Q k)
open Classical in
theorem sel_mem {n k : Nat} {Q : Nat → Prop} : k ∈ sel n Q ↔ k < n ∧ Q k := by
  unfold sel
  rw [List.mem_filter, List.mem_range, decide_eq_true_eq]
theorem sel_nd {n : Nat} {Q : Nat → Prop} : (sel n Q).Nodup := by
  unfold sel
  exact (List.nodup_range).filter _
theorem sel_lt {n : Nat} {Q : Nat → Prop} : (sel n Q).Pairwise (· < ·) := by
  unfold sel
  exact List.pairwise_lt_range.filter _
theorem sel_pw {n : Nat} {Q : Nat → Prop} : (lst (sel n Q)).Pairwise (· ≤ ·) := by
  rw [List.pairwise_map]
  exact sel_lt.imp fun h => by omega
theorem sel_len {n : Nat} {Q : Nat → Prop} : (sel n Q).length ≤ n := nodup_le sel_nd fun _ h => (sel_mem.1 h).1
open Classical in
theorem sel_s {n : Nat} {Q : Nat → Prop} (h : Q n) : sel (n + 1) Q = sel n Q ++ [n] := by
  unfold sel
  rw [List.range_succ, List.filter_append, List.filter_cons_of_pos (by simpa using h), List.filter_nil]
open Classical in
theorem sel_n {n : Nat} {Q : Nat → Prop} (h : ¬ Q n) : sel (n + 1) Q = sel n Q := by
  unfold sel
  rw [List.range_succ, List.filter_append, List.filter_cons_of_neg (by simpa using h), List.filter_nil, List.append_nil]
theorem sel_perm {n : Nat} {Q : Nat → Prop} {l : List Nat} {ys : List Int} (hn : l.Nodup) (hm : ∀ k, k ∈ l ↔ k < n ∧ Q k) (h1 : ys.Pairwise (· ≤ ·)) (h2 : ys.Perm (lst l)) : ys = lst (sel n Q) := by
  have hp : (lst (sel n Q)).Perm (lst l) := ((List.perm_ext_iff_of_nodup sel_nd hn).2 fun b => by rw [sel_mem, hm]).map _
  exact perm_eq h1 sel_pw (h2.trans hp.symm)
noncomputable abbrev rl (f : FU) : List Nat := sel f.2.1.length fun k => Rc f (-1) k
theorem c17_ok {f : FU} (hz : Szu f) (h12 : f.2.1.length ≤ 12) {k : Int → List Int → Prop} (h0 : fErr f ≠ 0 → k (fErr f) []) (h1 : fErr f = 0 → k 0 (lst (rl f))) : c17 f k := by
  constructor
  refine c36_ok hz (fun e => c21_ok (xs := []) (by simp) fun ys _ hp => ?_) fun e m hf hU o ho => c21_ok ?_ fun ys g1 g2 => ?_
  · rw [List.Perm.eq_nil hp]; exact h0 e
  · rw [lst_len]
    have := nodup_le ho.nd fun x hx => ho.inn hf hx
    omega
  · rw [sel_perm (n := f.2.1.length) (Q := fun k => Rc f (-1) k) ho.nd (fun k => (ho.mem k).trans ⟨fun w => ⟨w.lt hf, w⟩, And.right⟩) g1 g2]
    exact h1 e
def bt (x : Nat × Nat) : Int × Int × Unit := ((x.1 : Int), (x.2 : Int), ())
open Classical in
noncomputable def bk1 (f : FU) (p : Nat) (l : List ED) : List (Nat × Nat) := (l.filter fun e => decide (Dom f e.1.toNat p)).map fun e => (p, e.1.toNat)
open Classical in
theorem bk1_y {f : FU} {p : Nat} {e : ED} {l : List ED} (h : Dom f e.1.toNat p) : bk1 f p (e :: l) = (p, e.1.toNat) :: bk1 f p l := by
  unfold bk1
  rw [List.filter_cons_of_pos (by rw [decide_eq_true_eq]; exact h)]; rfl
open Classical in
theorem bk1_n {f : FU} {p : Nat} {e : ED} {l : List ED} (h : ¬ Dom f e.1.toNat p) : bk1 f p (e :: l) = bk1 f p l := by
  unfold bk1
  rw [List.filter_cons_of_neg (by rw [decide_eq_true_eq]; exact h)]
noncomputable def bkA (f : FU) (l : List Nat) : List (Nat × Nat) := l.flatMap fun p => bk1 f p (tosAt f p)
theorem bkA_s {f : FU} {l : List Nat} {p : Nat} : bkA f (l ++ [p]) = bkA f l ++ bk1 f p (tosAt f p) := by
  unfold bkA
  rw [List.flatMap_append, List.flatMap_cons, List.flatMap_nil, List.append_nil]
theorem bk1_len {f : FU} {p : Nat} {l : List ED} : (bk1 f p l).length ≤ l.length := by
  unfold bk1
  rw [List.length_map]
  exact List.length_filter_le _ _
theorem tosAt_len {f : FU} {m : MP} (hf : FOk f m) {p : Nat} : (tosAt f p).length ≤ 257 := by
  unfold tosAt
  split
  · rename_i b hb
    exact hf.tl b (List.mem_of_getElem? hb)
  · exact Nat.zero_le _
theorem bkA_len {f : FU} {m : MP} (hf : FOk f m) : ∀ {l : List Nat}, (bkA f l).length ≤ 257 * l.length
  | [] => Nat.le_refl _
  | p :: l => by
    have h1 := bkA_len hf (l := l)
    have h2 := bk1_len (f := f) (p := p) (l := tosAt f p)
    have h3 := tosAt_len hf (p := p)
    have : bkA f (p :: l) = bk1 f p (tosAt f p) ++ bkA f l := rfl
    rw [this, List.length_append, List.length_cons]
    omega
open Classical in
theorem bkA_mem {f : FU} {m : MP} (hf : FOk f m) {p h : Nat} : (p, h) ∈ bkA f (rl f) ↔ Rc f (-1) p ∧ Eg f p h ∧ Dom f h p := by
  unfold bkA
  rw [List.mem_flatMap]
  constructor
  · rintro ⟨q, h1, h2⟩
    unfold bk1 at h2
    rw [List.mem_map] at h2
    obtain ⟨e, h3, h4⟩ := h2
    rw [List.mem_filter, decide_eq_true_eq] at h3
    obtain ⟨h5, h6⟩ := Prod.mk.inj h4
    subst h5; subst h6
    refine ⟨(sel_mem.1 h1).2, ?_, h3.2⟩
    have h7 := h3.1
    unfold tosAt at h7
    split at h7
    · rename_i b hb
      have := (hf.edg b (List.mem_of_getElem? hb) e h7).1
      exact ⟨b, hb, e, h7, by omega⟩
    · cases h7
  · rintro ⟨h1, h2, h3⟩
    refine ⟨p, sel_mem.2 ⟨h1.lt hf, h1⟩, ?_⟩
    obtain ⟨b, hb, e, he, ee⟩ := h2
    unfold bk1
    refine List.mem_map.2 ⟨e, List.mem_filter.2 ⟨?_, ?_⟩, ?_⟩
    · unfold tosAt
      rw [hb]
      exact he
    · rw [decide_eq_true_eq, ee]; exact h3
    · rw [ee]; rfl
theorem map_snoc {B : List (Nat × Nat)} {x : Nat × Nat} {y : Int × Int × Unit} (h : y = bt x) : B.map bt ++ [y] = (B ++ [x]).map bt := by rw [h, List.map_append]; rfl
theorem l16r10_ok {f : FU} {m : MP} (hf : FOk f m) {o : List Nat} {ov : List Int} (ho : Od f o) (hD : Dt f o ov) {p : Nat} (hp : p ∈ o) {s2 s3 : Int} {s10 : List Int} {b : BK} (hb : f.2.1[p]? = some b)
    {k1 : Int → Int → FU → List Int → List (Int × Int × Unit) → List Int → Prop} {B : List (Nat × Nat)} (hB : B.length ≤ 90000) (hk : k1 s2 s3 f ov ((B ++ bk1 f p (tos b)).map bt) s10) : l16r10 k1 (p : Int) s2 s3 (tos b) ((tos b).length : Int) 0 f ov (B.map bt) s10 := by
  have htl : (tos b).length ≤ 257 := hf.tl b (List.mem_of_getElem? hb)
  constructor
  intro I hI
  have key := dropInd (l := tos b) (M := fun i r => ∀ B : List (Nat × Nat), B.length + r.length ≤ 100000 → k1 s2 s3 f ov ((B ++ bk1 f p r).map bt) s10 → I (p : Int) s2 s3 (tos b) ((tos b).length : Int) (i : Int) f ov (B.map bt) s10)
    (fun B _ hk => hI _ _ _ _ _ _ _ _ _ _ (brDn (by omega) (by
      have : bk1 f p [] = [] := rfl
      rw [this, List.append_nil] at hk
      exact hk)))
    (fun i hi ih B hl hk => by
      apply hI
      have hx : (tos b)[i] ∈ tos b := List.getElem_mem hi
      obtain ⟨q1, q2, _⟩ := hf.edg b (List.mem_of_getElem? hb) _ hx
      rw [List.length_cons] at hl
      rw [wrapS (n := i) (by omega)]
      refine brD (by omega) (needAt hi ?_)
      generalize (tos b)[i] = e at hx q1 q2 hk
      obtain ⟨h, he⟩ := Int.eq_ofNat_of_zero_le (show 0 ≤ e.1 by omega)
      rw [he]
      refine c35_ok' hf ho hD hp (fun a => brT rfl (brT (roomS (by rw [List.length_map]; omega)) ?_)) fun a => brF rfl (ih B (by omega) ?_)
      · have d := (hD.iff ho hp).1 a
        rw [map_snoc (x := (p, h)) (y := ((p : Int), (h : Int), ())) rfl]
        refine ih _ (by rw [List.length_append, List.length_singleton]; omega) ?_
        rw [bk1_y (by rw [he]; exact d), he] at hk
        rw [List.append_assoc]
        exact hk
      · rw [bk1_n (by rw [he]; exact fun d => a ((hD.iff ho hp).2 d))] at hk
        exact hk)
  exact key B (by omega) hk
theorem l16r7_ok {f : FU} {m : MP} (hf : FOk f m) {o : List Nat} {ov : List Int} (ho : Od f o) (hD : Dt f o ov) {k1 : List (Int × Int × Unit) → Prop} (hk : k1 ((bkA f (rl f)).map bt)) : l16r7 k1 ((lst (rl f)).length : Int) 0 f ov [] (lst (rl f)) := by
  have hn := hf.le
  have hrl : (rl f).length ≤ f.2.1.length := sel_len
  rw [lst_len]
  constructor
  intro I hI
  have key := upInd (N := (rl f).length) (M := fun i => I ((rl f).length : Int) (i : Int) f ov ((bkA f ((rl f).take i)).map bt) (lst (rl f)))
    (by rw [List.take_length]; exact hI _ _ _ _ _ _ (brDn (by omega) hk))
    (fun i hi ih => by
      apply hI
      have hpm : (rl f)[i] ∈ rl f := List.getElem_mem hi
      have hg : (lst (rl f))[i]? = some ((rl f)[i] : Int) := by rw [List.getElem?_map, List.getElem?_eq_getElem hi]; rfl
      have hll := lst_len (l := rl f)
      rw [List.take_succ_eq_append_getElem hi, bkA_s] at ih
      generalize (rl f)[i] = p at hpm hg ih
      have hpr := (sel_mem.1 hpm).2
      have hp := (sel_mem.1 hpm).1
      have hb := List.getElem?_eq_getElem hp
      have ht : tosAt f p = tos f.2.1[p] := by unfold tosAt; rw [hb]
      refine brD (by omega) (brD (by omega) ?_)
      rw [Int.toNat_natCast]
      refine needS hg (needS (v := f.2.1[p]) (by rw [at?_nat]; exact hb) (l16r10_ok hf ho hD ((ho.mem p).2 hpr) (b := f.2.1[p]) hb ?_ ?_))
      · have := bkA_len hf (l := (rl f).take i)
        rw [List.length_take] at this
        omega
      · show I ((rl f).length : Int) (IntKind.wrap .i64 ((i : Int) + 1)) f ov _ _
        rw [wrapS (n := i) (by omega), ← ht]
        exact ih)
    0 (Nat.zero_le _)
  exact key
theorem c16_ok {f : FU} (hz : Szu f) (h12 : f.2.1.length ≤ 12) {k : Int → List (Int × Int × Unit) → Prop} (h0 : fErr f ≠ 0 → k (fErr f) []) (h1 : fErr f = 0 → k 0 ((bkA f (rl f)).map bt)) : c16 f k := by
  constructor
  refine c17_ok hz h12 (fun e => brT (by simpa using e) (h0 e)) fun e => brF rfl (c34_ok' hz (fun w => (w e).elim) fun _ m hf hU o ov ho hD => l16r7_ok hf ho hD (h1 e))
abbrev LO := Int × List Int × Int × Unit
theorem lst_mem {l : List Nat} {k : Nat} : (k : Int) ∈ lst l ↔ k ∈ l := by
  rw [List.mem_map]
  exact ⟨fun ⟨a, h1, h2⟩ => by rw [← Int.ofNat.inj h2]; exact h1, fun h => ⟨k, h, rfl⟩⟩
theorem lst_get {L : List Nat} {j : Nat} (hj : j < L.length) : (lst L)[j]? = some (L[j] : Int) := by rw [List.getElem?_map, List.getElem?_eq_getElem hj]; rfl
theorem c39_ok' {x : Int} {k : Bool → Prop} (h : k false) : c39 x k := ⟨by
  show k (x != x)
  rw [bne_self_eq_false]; exact h⟩
theorem c19_ok {L : List Nat} (hs : L.Pairwise (· < ·)) (hl : L.length ≤ 100000) {v : Nat} {k : Int → Bool → Prop} (h1 : v ∈ L → ∀ i, k i true) (h2 : v ∉ L → ∀ i, k i false) : c19 (lst L) (v : Int) k := by
  constructor
  constructor
  intro I hI
  rw [lst_len]
  have mono : ∀ i j (hi : i < L.length) (hj : j < L.length), i < j → L[i] < L[j] := fun i j hi hj w => List.pairwise_iff_getElem.1 hs i j hi hj w
  have fin : ∀ lo : Nat, lo ≤ L.length → (∀ j (hj : j < L.length), j < lo → L[j] < v) → (∀ j (hj : j < L.length), lo ≤ j → v ≤ L[j]) → br (decide ((lo : Int) < (L.length : Int))) (need False (at? (lst L) (lo : Int)) fun y7 => br ((y7 : Int) == (v : Int)) (k (lo : Int) true) (need False (at? (lst L) (lo : Int)) fun y8 => c39 y8 fun z9 => br z9 (c39 (v : Int) fun z10 => k (lo : Int) z10) (k (lo : Int) false))) (k (lo : Int) false) := by
    intro lo e1 e2 e3
    refine brP (fun w => ?_) fun w => h2 (fun hm => ?_) _
    · have hlo : lo < L.length := by omega
      refine needS (by rw [at?_nat]; exact lst_get hlo) (brE (fun e => h1 ?_ _) fun e => needS (by rw [at?_nat]; exact lst_get hlo) (c39_ok' (brF rfl (h2 (fun hm => ?_) _))))
      · have : L[lo] = v := by omega
        rw [← this]; exact List.getElem_mem hlo
      · obtain ⟨j, hj, ej⟩ := List.getElem_of_mem hm
        by_cases q : j < lo
        · have := e2 j hj q; omega
        · by_cases q2 : j = lo
          · subst q2; exact e (by omega)
          · have := mono lo j hlo hj (by omega)
            have := e3 lo hlo (Nat.le_refl _)
            omega
    · obtain ⟨j, hj, ej⟩ := List.getElem_of_mem hm
      have := e2 j hj (by omega)
      omega
  have key : ∀ N lo hi : Nat, hi - lo ≤ N → lo ≤ hi → hi ≤ L.length → (∀ j (hj : j < L.length), j < lo → L[j] < v) → (∀ j (hj : j < L.length), hi ≤ j → v ≤ L[j]) → I (lst L) (v : Int) (L.length : Int) (lo : Int) (hi : Int) := by
    intro N
    induction N with
    | zero =>
      intro lo hi e1 e2 e3 e4 e5
      obtain rfl : lo = hi := by omega
      exact hI _ _ _ _ _ (brDn (by omega) (fin lo e3 e4 e5))
    | succ N ih =>
      intro lo hi e1 e2 e3 e4 e5
      by_cases q : lo < hi
      · have hm : (lo + hi) / 2 < L.length := by omega
        refine hI _ _ _ _ _ (brD (by omega) ?_)
        rw [midI (by omega)]
        refine needS (by rw [at?_nat]; exact lst_get hm) (c38_ok (brP (fun w => ?_) fun w => ?_))
        · rw [wrapS (n := (lo + hi) / 2) (by omega)]
          refine ih _ _ (by omega) (by omega) e3 (fun j hj hjl => ?_) e5
          by_cases q2 : j = (lo + hi) / 2
          · subst q2; omega
          · have := mono j _ hj hm (by omega)
            omega
        · refine ih _ _ (by omega) (by omega) (by omega) e4 fun j hj hjl => ?_
          by_cases q2 : j = (lo + hi) / 2
          · subst q2; omega
          · have := mono _ j hm hj (by omega)
            omega
      · obtain rfl : lo = hi := by omega
        exact hI _ _ _ _ _ (brDn (by omega) (fin lo e3 e4 e5))
  exact key L.length 0 L.length (by omega) (by omega) (Nat.le_refl _) (fun j _ w => absurd w (by omega)) fun j hj w => absurd w (by omega)
def bwk (B : List (Nat × Nat)) (h : Nat) : List Nat := (B.filter fun x => x.2 == h).map Prod.fst
theorem bwk_mem {B : List (Nat × Nat)} {h p : Nat} : p ∈ bwk B h ↔ (p, h) ∈ B := by
  unfold bwk
  rw [List.mem_map]
  constructor
  · rintro ⟨x, h1, h2⟩
    rw [List.mem_filter, beq_iff_eq] at h1
    obtain ⟨a, b⟩ := x
    obtain ⟨h1, rfl⟩ := h1
    obtain rfl : a = p := h2
    exact h1
  · intro w
    exact ⟨(p, h), List.mem_filter.2 ⟨w, by simp⟩, rfl⟩
theorem bwk_y {B : List (Nat × Nat)} {h : Nat} {x : Nat × Nat} (e : x.2 = h) : lst (bwk (B ++ [x]) h) = lst (bwk B h) ++ [(x.1 : Int)] := by
  unfold bwk
  rw [List.filter_append, List.filter_cons_of_pos (by simpa using e), List.filter_nil, List.map_append]
  simp [lst]
theorem bwk_n {B : List (Nat × Nat)} {h : Nat} {x : Nat × Nat} (e : x.2 ≠ h) : bwk (B ++ [x]) h = bwk B h := by
  unfold bwk
  rw [List.filter_append, List.filter_cons_of_neg (by simpa using e), List.filter_nil, List.append_nil]
theorem bwk_len {B : List (Nat × Nat)} {h : Nat} : (bwk B h).length ≤ B.length := by
  unfold bwk
  rw [List.length_map]
  exact List.length_filter_le _ _
theorem l6r12_ok {B : List (Nat × Nat)} (hB : B.length ≤ 100000) {h : Nat} {s2 s3 : Int} {s7 : List Int} {s8 : List (List Int)} {s9 : List LO} {k1 : Int → Int → Int → List (Int × Int × Unit) → List Int → List (List Int) → List LO → List Int → Prop} (hk : k1 (h : Int) s2 s3 (B.map bt) s7 s8 s9 (lst (bwk B h))) : l6r12 k1 (h : Int) s2 s3 (B.length : Int) 0 (B.map bt) s7 s8 s9 [] := by
  constructor
  intro I hI
  have key := upInd (N := B.length) (M := fun i => I (h : Int) s2 s3 (B.length : Int) (i : Int) (B.map bt) s7 s8 s9 (lst (bwk (B.take i) h)))
    (by rw [List.take_length]; exact hI _ _ _ _ _ _ _ _ _ _ (brDn (by omega) hk))
    (fun i hi ih => by
      apply hI
      have hg : (B.map bt)[i]? = some (bt B[i]) := by rw [List.getElem?_map, List.getElem?_eq_getElem hi]; rfl
      have hll : (B.map bt).length = B.length := List.length_map _
      rw [List.take_succ_eq_append_getElem hi] at ih
      rw [wrapS (n := i) (by omega)]
      generalize B[i] = x at hg ih
      refine brD (by omega) (brD (by omega) ?_)
      rw [Int.toNat_natCast]
      refine needS hg (brE (fun e => ?_) fun e => ?_)
      · have e : (x.2 : Int) = (h : Int) := e
        rw [bwk_y (by omega)] at ih
        have := bwk_len (B := B.take i) (h := h)
        rw [List.length_take] at this
        exact brT (roomS (by rw [lst_len]; omega)) ih
      · have e : (x.2 : Int) ≠ (h : Int) := e
        rw [bwk_n (by omega)] at ih
        exact ih)
    0 (Nat.zero_le _)
  exact key
theorem mid_ok {f : FU} (hn : f.2.1.length ≤ 128) {all : List Nat} (hal : all.length ≤ 100000) {k : Nat} (hkn : k < f.2.1.length) {X Y : Prop} (h1 : ¬ Rc f (-1) k ∨ k ∈ all → Y) (h2 : Rc f (-1) k → k ∉ all → X) : c19 (lst (rl f)) (k : Int) fun _ z12 => br z12 (c20 (lst all) (k : Int) fun z13 => br (!z13) X Y) Y := by
  refine c19_ok sel_lt (by have := sel_len (n := f.2.1.length) (Q := fun k => Rc f (-1) k); omega) (fun hm _ => brT rfl (c20_ok (by rw [lst_len]; have := hml; omega) (fun w => brF rfl (h1 (.inr (lst_mem.1 w)))) fun w => brT rfl (h2 (sel_mem.1 hm).2 fun q => w (lst_mem.2 q)))) fun hm _ => brF rfl (h1 (.inl fun q => hm (sel_mem.2 ⟨hkn, q⟩)))
theorem rws_same {n k : Nat} {Y : Nat → List Nat} (h : k < n) : (rws n Y).set k (lst (Y k)) = rws n Y := by
  rw [rws_set h]
  have : (fun i => if i = k then Y k else Y i) = Y := funext fun i => by
    by_cases q : i = k
    · subst q; rw [if_pos rfl]
    · rw [if_neg q]
  rw [this]
theorem dec40 {a b c N : Nat} (h : (200 - a) * 40000 + (b + 1) ≤ N + 1) (h1 : a < 200) (h2 : c < 40000) : (200 - (a + 1)) * 40000 + (b + c) ≤ N := by
  have e : 200 - a = (200 - (a + 1)) + 1 := by omega
  rw [e, Nat.add_mul, Nat.one_mul] at h
  generalize (200 - (a + 1)) * 40000 = x at h ⊢
  omega
abbrev prw (f : FU) : List (List Int) := rws f.2.1.length fun j => prd f f.2.1.length j
theorem l6r19_ok {f : FU} {m : MP} (hf : FOk f m) {h : Nat} (hh : h < f.2.1.length) {s2 s3 : Int} {B : List (Int × Int × Unit)} {lo : List LO} {K : Int → Int → Int → List (Int × Int × Unit) → List Int → List (List Int) → List LO → List Int → Prop}
    (hK : ∀ all, Lw f h all [] → K (h : Int) s2 s3 B (lst (rl f)) (prw f) lo (lst all)) {work : List Nat} (hw : Lw f h [h] work) (hwl : work.length ≤ 100000) : l6r19 K (h : Int) s2 s3 B (lst (rl f)) (prw f) lo (lst work) (lst [h]) := by
  have hn := hf.le
  constructor
  intro I1 I2 hI1 hI2
  have key : ∀ (N : Nat) (all work : List Nat), Lw f h all work → (200 - all.length) * 40000 + work.length ≤ N → N ≤ 100000000 →
      I1 (h : Int) s2 s3 B (lst (rl f)) (prw f) lo (lst work) (lst all) ∧
      ∀ R : List Int, R.take work.length = lst work → I2 (h : Int) 0 work.length R.length s2 s3 B (lst (rl f)) (prw f) lo R (lst all) := by
    intro N
    induction N with
    | zero =>
      intro all work hL hN _
      have hal : all.length ≤ f.2.1.length := nodup_le hL.nd fun x hx => by
        rcases hL.snd x hx with rfl | q
        · exact hh
        · exact q.rc.lt hf
      omega
    | succ N ih =>
      intro all work hL hN hNb
      have hal : all.length ≤ f.2.1.length := nodup_le hL.nd fun x hx => by
        rcases hL.snd x hx with rfl | q
        · exact hh
        · exact q.rc.lt hf
      rcases List.eq_nil_or_concat work with rfl | ⟨w, k, rfl⟩
      · refine ⟨hI1 _ _ _ _ _ _ _ _ _ (brDn (by simp) (hK all hL)), fun R hR => ?_⟩
        exact hI2 _ _ _ _ _ _ _ _ _ _ _ _ (brDn (by simp) (hK all hL))
      · rw [List.concat_eq_append] at hL hN ⊢
        have hkn : k < f.2.1.length := (hL.wsn k (List.mem_append_right _ (List.mem_singleton_self _))).1
        have hwl : (w ++ [k]).length = w.length + 1 := by simp
        rw [hwl] at hN
        have hpl := prd_len hf (k := k) f.2.1.length
        have hps : ∀ j, j ∈ prd f f.2.1.length k ↔ Eg f j k := fun j => by
          rw [prd_mem]; exact ⟨And.right, fun e => ⟨(e.lt hf).1, e⟩⟩
        have hg := rws_get (Y := fun j => prd f f.2.1.length j) hkn
        have hrl : (prw f).length = f.2.1.length := rws_len
        have hset : (prw f).set k (lst (prd f f.2.1.length k)) = prw f := rws_same (Y := fun j => prd f f.2.1.length j) hkn
        generalize prd f f.2.1.length k = ps at hpl hps hg hset
        have skipped : (¬ Rc f (-1) k ∨ k ∈ all) → ∀ R : List Int, R.take w.length = lst w → I2 (h : Int) 0 w.length R.length s2 s3 B (lst (rl f)) (prw f) lo R (lst all) := fun q R hR => (ih all w (hL.skip q) (by omega) (by omega)).2 R hR
        have hal1 : (all ++ [k]).length = all.length + 1 := by simp
        have hwpl : (w ++ ps).length = w.length + ps.length := by simp
        have hsn : lst (all ++ [k]) = lst all ++ [(k : Int)] := lst_snoc.symm
        have hdec : (200 - (all ++ [k]).length) * 40000 + (w ++ ps).length ≤ N := by
          rw [hal1, hwpl]
          exact dec40 hN (by omega) (by omega)
        have taken := fun (q1 : Rc f (-1) k) (q2 : k ∉ all) => ih (all ++ [k]) (w ++ ps) (hL.take hf q1 q2 hps) hdec (Nat.le_of_succ_le hNb)
        have happ : lst (w ++ ps) = lst w ++ lst ps := by simp [lst]
        have hw1 : IntKind.wrap .i64 (((w.length + 1 : Nat) : Int) - 1) = (w.length : Int) := by rw [wrap64 (by omega) (by omega)]; omega
        have hps2 : (lst ps).length = ps.length := lst_len
        have hal2 : (lst all).length = all.length := lst_len
        have hwl2 : (lst w).length = w.length := lst_len
        refine ⟨hI1 _ _ _ _ _ _ _ _ _ ?_, fun R hR => hI2 _ _ _ _ _ _ _ _ _ _ _ _ ?_⟩
        · have hlen : (lst (w ++ [k])).length = w.length + 1 := by simp [lst]
          have hget : (lst (w ++ [k]))[w.length]? = some (k : Int) := by simp [lst]
          have htk : (lst (w ++ [k])).take w.length = lst w := by simp [lst]
          simp only [hlen, hw1, Int.sub_zero, Int.toNat_natCast, Nat.zero_add, Nat.add_zero]
          refine brD (by omega) (brD (by omega) (needS hget (brD (by omega) (mid_ok hn (by omega) hkn (fun q => ?_) fun q1 q2 => ?_))))
          · have := skipped q (lst (w ++ [k])) htk
            rw [hlen] at this
            exact this
          · refine brT (roomS (by omega)) (brD (by omega) (needS hg (needS hg ?_)))
            rw [Int.toNat_natCast, hset, htk, hps2]
            refine brP (fun fit => ?_) fun fit => brT (roomS (by omega)) ?_
            · have hR' : (lst w ++ lst ps ++ (lst (w ++ [k])).drop (w.length + ps.length)).take (w ++ ps).length = lst (w ++ ps) := by
                rw [happ, hwpl, List.take_left' (by rw [List.length_append]; omega)]
              have := (taken q1 q2).2 _ hR'
              rw [hsn] at this
              have e : (lst w ++ lst ps ++ (lst (w ++ [k])).drop (w.length + ps.length)).length = w.length + 1 := by
                rw [List.length_append, List.length_append, List.length_drop]; omega
              rw [e, hwpl] at this
              exact this
            · have := (taken q1 q2).1
              rw [hsn] at this
              rw [happ] at this
              exact this
        · rw [hwl] at hR ⊢
          have hRl : w.length + 1 ≤ R.length := by
            have := congrArg List.length hR
            rw [List.length_take] at this
            have hlen : (lst (w ++ [k])).length = w.length + 1 := by simp [lst]
            omega
          have hget : R[w.length]? = some (k : Int) := by
            have : (R.take (w.length + 1))[w.length]? = some (k : Int) := by rw [hR]; simp [lst]
            rwa [List.getElem?_take_of_lt (by omega)] at this
          have htk : R.take w.length = lst w := by
            have : (R.take (w.length + 1)).take w.length = lst w := by rw [hR]; simp [lst]
            rwa [List.take_take, Nat.min_eq_left (by omega)] at this
          simp only [hw1, Int.sub_zero, Int.toNat_natCast, Nat.zero_add, Nat.add_zero]
          refine brD (by omega) (brD (by omega) (needS hget (brD (by omega) (mid_ok hn (by omega) hkn (fun q => skipped q R htk) fun q1 q2 => ?_))))
          refine brT (roomS (by omega)) (brD (by omega) (needS hg (needS hg ?_)))
          rw [Int.toNat_natCast, hset, htk, hps2]
          refine brP (fun fit => ?_) fun fit => brT (roomS (by omega)) (brD trivial ?_)
          · have hR' : (lst w ++ lst ps ++ R.drop (w.length + ps.length)).take (w ++ ps).length = lst (w ++ ps) := by
              rw [happ, hwpl, List.take_left' (by rw [List.length_append]; omega)]
            have := (taken q1 q2).2 _ hR'
            rw [hsn] at this
            have e : (lst w ++ lst ps ++ R.drop (w.length + ps.length)).length = R.length := by
              rw [List.length_append, List.length_append, List.length_drop]; omega
            rw [e, hwpl] at this
            exact this
          · have := (taken q1 q2).1
            rw [hsn] at this
            rw [happ] at this
            exact this
  exact (key 50000000 [h] work hw (by simp; omega) (by omega)).1
abbrev HB := Nat × List Nat
noncomputable def bl (f : FU) (h : Nat) : List Nat := sel f.2.1.length fun k => k = h ∨ Lp f h k
noncomputable abbrev hds (f : FU) : List Nat := sel f.2.1.length (IsHd f)
noncomputable def hb (f : FU) (h : Nat) : HB := (h, bl f h)
def lo (x : HB) (p : Int) : LO := ((x.1 : Int), lst x.2, p, ())
noncomputable def hbs (f : FU) : List HB := (hds f).map (hb f)
theorem l6r8_ok {f : FU} {m : MP} (hf : FOk f m) (h12 : f.2.1.length ≤ 12) {K : List LO → Prop} (hK : K ((hbs f).map fun x => lo x (-1))) : l6r8 K (f.2.1.length : Int) 0 ((bkA f (rl f)).map bt) (lst (rl f)) (prw f) [] := by
  have hn := hf.le
  have hBl : (bkA f (rl f)).length ≤ 100000 := by
    have h1 := bkA_len hf (l := rl f)
    have h2 : (rl f).length ≤ f.2.1.length := sel_len
    omega
  constructor
  intro I hI
  have key := upInd (N := f.2.1.length) (M := fun i => I (f.2.1.length : Int) (i : Int) ((bkA f (rl f)).map bt) (lst (rl f)) (prw f) (((sel i (IsHd f)).map (hb f)).map fun x => lo x (-1)))
    (hI _ _ _ _ _ _ (brDn (by omega) hK))
    (fun i hi ih => by
      apply hI
      refine brD (by omega) ?_
      rw [List.length_map]
      refine l6r12_ok hBl ?_
      have hbase : ∀ p, p ∈ bwk (bkA f (rl f)) i ↔ Rc f (-1) p ∧ Eg f p i ∧ Dom f i p := fun p => bwk_mem.trans (bkA_mem hf)
      have hwl := bwk_len (B := bkA f (rl f)) (h := i)
      generalize bwk (bkA f (rl f)) i = w at hbase hwl
      rw [lst_len]
      refine brE (fun e => ?_) fun e => ?_
      · obtain rfl := List.eq_nil_of_length_eq_zero (show w.length = 0 by omega)
        have no : ¬ IsHd f i := fun ⟨_, p, h1, h2, h3⟩ => by
          have := (hbase p).2 ⟨h1, h2, h3⟩
          cases this
        rw [sel_n no] at ih
        rw [wrapS (n := i) (by omega)]
        exact ih
      · have is : IsHd f i := by
          cases w with
          | nil => exact (e rfl).elim
          | cons p r =>
            obtain ⟨h1, h2, h3⟩ := (hbase p).1 (List.mem_cons_self ..)
            exact ⟨.s h1 h2 (by omega), p, h1, h2, h3⟩
        rw [sel_s is, List.map_append, List.map_append] at ih
        have hL : Lw f i [i] w := by
          refine ⟨List.mem_singleton_self _, (by simp), fun k hk => .inl (List.mem_singleton.1 hk), fun k hk => ?_, fun p h1 h2 h3 => .inr ((hbase p).2 ⟨h1, h2, h3⟩), fun k hk hk2 => (hk2 (List.mem_singleton.1 hk)).elim⟩
          obtain ⟨h1, h2, h3⟩ := (hbase k).1 hk
          refine ⟨h1.lt hf, fun _ => ?_⟩
          by_cases q : k = i
          · exact .inl q
          · exact .inr (.b h1 h2 h3 q)
        refine l6r19_ok hf hi (fun all hA => ?_) hL (by omega)
        have hal : all.length ≤ f.2.1.length := nodup_le hA.nd fun x hx => by
          rcases hA.snd x hx with rfl | q
          · exact hi
          · exact q.rc.lt hf
        refine c21_ok (by rw [lst_len]; omega) fun ys g1 g2 => ?_
        have hm : ∀ k, k ∈ all ↔ k < f.2.1.length ∧ (k = i ∨ Lp f i k) := fun k => hA.fin.trans ⟨fun w => ⟨by
          rcases w with rfl | w
          · exact hi
          · exact w.rc.lt hf, w⟩, And.right⟩
        rw [sel_perm hA.nd hm g1 g2]
        have hsl : (((sel i (IsHd f)).map (hb f)).map fun x => lo x (-1)).length ≤ i := by
          rw [List.length_map, List.length_map]; exact sel_len
        rw [wrapS (n := i) (by omega)]
        exact brT (roomS (by omega)) ih)
    0 (Nat.zero_le _)
  exact key
def nlen (B : List HB) (p : Int) : Nat := match B[p.toNat]? with | some x => x.2.length | none => 0
def bet (B : List HB) (i k : Nat) (p : Int) : Bool := match B[i]?, B[k]? with
  | some x, some y => decide (k ≠ i ∧ x.1 ∈ y.2 ∧ (p < 0 ∨ y.2.length < nlen B p))
  | _, _ => false
def nP (B : List HB) (i : Nat) : Nat → Int
  | 0 => -1
  | k + 1 => if bet B i k (nP B i k) then (k : Int) else nP B i k
theorem nP_lt {B : List HB} {i : Nat} : ∀ k, nP B i k = -1 ∨ ∃ p : Nat, nP B i k = (p : Int) ∧ p < k
  | 0 => .inl rfl
  | k + 1 => by
    rw [nP]
    split
    · exact .inr ⟨k, rfl, Nat.lt_succ_self _⟩
    · exact (nP_lt k).imp id fun ⟨p, h1, h2⟩ => ⟨p, h1, by omega⟩
theorem bet_iff {B : List HB} {i k : Nat} {p : Int} {x y : HB} (hx : B[i]? = some x) (hy : B[k]? = some y) : bet B i k p = true ↔ k ≠ i ∧ x.1 ∈ y.2 ∧ (p < 0 ∨ y.2.length < nlen B p) := by
  unfold bet
  rw [hx, hy]
  simp only [decide_eq_true_eq]
theorem nP_y {B : List HB} {i k : Nat} {x y : HB} (hx : B[i]? = some x) (hy : B[k]? = some y) (h : k ≠ i ∧ x.1 ∈ y.2 ∧ (nP B i k < 0 ∨ y.2.length < nlen B (nP B i k))) : nP B i (k + 1) = (k : Int) := by
  rw [nP, if_pos ((bet_iff hx hy).2 h)]
theorem nP_n {B : List HB} {i k : Nat} {x y : HB} (hx : B[i]? = some x) (hy : B[k]? = some y) (h : ¬ (k ≠ i ∧ x.1 ∈ y.2 ∧ (nP B i k < 0 ∨ y.2.length < nlen B (nP B i k)))) : nP B i (k + 1) = nP B i k := by
  rw [nP, if_neg (fun w => h ((bet_iff hx hy).1 w))]
def LS (B : List HB) (P : Nat → Int) : List LO := (List.range B.length).map fun j => lo (B[j]?.getD (0, [])) (P j)
theorem LS_len {B : List HB} {P : Nat → Int} : (LS B P).length = B.length := by simp [LS]
theorem LS_get {B : List HB} {P : Nat → Int} {j : Nat} {x : HB} (h : B[j]? = some x) : (LS B P)[j]? = some (lo x (P j)) := by
  have hj := (List.getElem?_eq_some_iff.1 h).1
  unfold LS
  rw [List.getElem?_map, List.getElem?_range hj]
  simp [h]
theorem LS_set {B : List HB} {P : Nat → Int} {j : Nat} {x : HB} {v : Int} (h : B[j]? = some x) : (LS B P).set j (lo x v) = LS B fun i => if i = j then v else P i := by
  have hj := (List.getElem?_eq_some_iff.1 h).1
  refine List.ext_getElem? fun i => ?_
  by_cases hi : i < B.length
  · have hx := List.getElem?_eq_getElem hi
    rw [LS_get hx, List.getElem?_set]
    by_cases q : j = i
    · subst q
      rw [if_pos rfl, if_pos (by rw [LS_len]; exact hj), if_pos rfl]
      rw [h] at hx
      rw [Option.some.inj hx]
    · rw [if_neg q, LS_get hx, if_neg (fun e => q e.symm)]
  · rw [List.getElem?_eq_none (by rw [List.length_set, LS_len]; omega), List.getElem?_eq_none (by rw [LS_len]; omega)]
theorem LS_congr {B : List HB} {P Q : Nat → Int} (h : ∀ j, j < B.length → P j = Q j) : LS B P = LS B Q := List.map_congr_left fun j hj => by rw [h j (List.mem_range.1 hj)]
theorem LS_map {B : List HB} : LS B (fun _ => -1) = B.map fun x => lo x (-1) := by
  refine List.ext_getElem? fun i => ?_
  by_cases hi : i < B.length
  · rw [LS_get (List.getElem?_eq_getElem hi), List.getElem?_map, List.getElem?_eq_getElem hi]; rfl
  · rw [List.getElem?_eq_none (by rw [LS_len]; omega), List.getElem?_eq_none (by rw [List.length_map]; omega)]
theorem nlen_p {B : List HB} {p : Nat} {x : HB} (h : B[p]? = some x) : nlen B (p : Int) = x.2.length := by
  unfold nlen
  rw [Int.toNat_natCast, h]
def pu (P : Nat → Int) (j : Nat) (v : Int) : Nat → Int := fun i => if i = j then v else P i
theorem pu_same {P : Nat → Int} {j : Nat} {v : Int} : pu P j v j = v := by unfold pu; rw [if_pos rfl]
theorem pu_pu {P : Nat → Int} {j : Nat} {v w : Int} : (fun i => if i = j then w else pu P j v i) = pu P j w := funext fun i => by
  unfold pu
  by_cases q : i = j
  · rw [if_pos q, if_pos q]
  · rw [if_neg q, if_neg q, if_neg q]
theorem l22r4_ok {B : List HB} (hB : B.length ≤ 100000) (hb : ∀ x ∈ B, x.2.length ≤ 100000) {i : Nat} (hi : i < B.length) {s2 s3 : Int} {P : Nat → Int} {K : Int → Int → List LO → Prop} (hK : K s2 s3 (LS B (pu P i (nP B i B.length)))) : l22r4 K (i : Int) s2 s3 (B.length : Int) 0 (LS B (pu P i (-1))) := by
  constructor
  intro I hI
  have hx := List.getElem?_eq_getElem hi
  generalize B[i] = x at hx
  have key := upInd (N := B.length) (M := fun k => I (i : Int) s2 s3 (B.length : Int) (k : Int) (LS B (pu P i (nP B i k))))
    (hI _ _ _ _ _ _ (brDn (by omega) hK))
    (fun k hk ih => by
      apply hI
      have hy := List.getElem?_eq_getElem hk
      have hyl := hb _ (List.getElem_mem hk)
      generalize B[k] = y at hy hyl
      have hll := LS_len (B := B) (P := pu P i (nP B i k))
      have gk := LS_get (P := pu P i (nP B i k)) hy
      have gi := LS_get (P := pu P i (nP B i k)) hx
      rw [pu_same] at gi
      have stay : ¬ (k ≠ i ∧ x.1 ∈ y.2 ∧ (nP B i k < 0 ∨ y.2.length < nlen B (nP B i k))) → I (i : Int) s2 s3 (B.length : Int) ((k + 1 : Nat) : Int) (LS B (pu P i (nP B i k))) := fun q => by
        rw [nP_n hx hy q] at ih; exact ih
      have move : (k ≠ i ∧ x.1 ∈ y.2 ∧ (nP B i k < 0 ∨ y.2.length < nlen B (nP B i k))) → I (i : Int) s2 s3 (B.length : Int) ((k + 1 : Nat) : Int) ((LS B (pu P i (nP B i k))).set i (lo x (k : Int))) := fun q => by
        rw [nP_y hx hy q] at ih
        rw [LS_set hx, pu_pu]; exact ih
      rw [wrapS (n := k) (by omega)]
      simp only [Int.toNat_natCast]
      refine brD (by omega) (brD (by omega) (needS gk (brE (fun e => stay fun q => q.1 (by omega)) fun e => ?_)))
      have hki : k ≠ i := fun w => e (by rw [w])
      refine brD (by omega) (needS gi (brT (eqT_self _ _) (brD (by omega) (brT (by simp) (brT (by simp) (needS gi (brT (eqT_self _ _) (c20_ok (by rw [show (lo y _).2.1 = lst y.2 from rfl, lst_len]; have := hml; omega) (fun hm => ?_) fun hm => ?_))))))))
      · have hm : x.1 ∈ y.2 := lst_mem.1 hm
        refine brF rfl (brD (by omega) (needS gi (brP (fun w => ?_) fun w => ?_)))
        · have w : nP B i k < 0 := w
          have := brD (y := False) (show (0 : Int) ≤ (i : Int) ∧ (i : Int) < ((LS B (pu P i (nP B i k))).length : Int) by omega) (needS gi (K := fun y12 => I (i : Int) s2 s3 (B.length : Int) ((k + 1 : Nat) : Int) ((LS B (pu P i (nP B i k))).set i (y12.1, y12.2.1, (k : Int), y12.2.2.2))) (move ⟨hki, hm, .inl w⟩))
          exact ⟨this, this⟩
        · have w : ¬ nP B i k < 0 := w
          obtain ⟨p, hp, hpk⟩ := (nP_lt (B := B) (i := i) k).resolve_left fun q => w (by omega)
          have hz := List.getElem?_eq_getElem (show p < B.length by omega)
          generalize B[p]'(by omega) = z at hz
          have gp := LS_get (P := pu P i (nP B i k)) hz
          have hnl : nlen B (nP B i k) = z.2.length := by rw [hp]; exact nlen_p hz
          have cmp : br (decide (((lst y.2).length : Int) < ((lst z.2).length : Int))) (br (decide ((0 : Int) ≤ (i : Int) ∧ (i : Int) < ((LS B (pu P i (nP B i k))).length : Int))) (need False (LS B (pu P i (nP B i k)))[i]? fun y15 => I (i : Int) s2 s3 (B.length : Int) ((k + 1 : Nat) : Int) ((LS B (pu P i (nP B i k))).set i (y15.1, y15.2.1, (k : Int), y15.2.2.2))) False) (I (i : Int) s2 s3 (B.length : Int) ((k + 1 : Nat) : Int) (LS B (pu P i (nP B i k)))) := by
            rw [lst_len, lst_len]
            refine brP (fun q => brD (by omega) (needS gi (move ⟨hki, hm, .inr (by omega)⟩))) fun q => stay fun r => ?_
            rcases r.2.2 with r | r <;> omega
          show br (decide ((0 : Int) ≤ nP B i k ∧ nP B i k < _)) _ _
          have hpt : (nP B i k).toNat = p := by omega
          refine brD (by omega) ⟨brT (eqT_self _ _) (brD ?_ (brT (by simp) (brT (by simp) (needS (v := lo z (pu P i (nP B i k) p)) ?_ (brT (eqT_self _ _) cmp))))), needS (v := lo z (pu P i (nP B i k) p)) ?_ (brT rfl (brT (eqT_self _ _) cmp))⟩
          · show (0 : Int) ≤ nP B i k ∧ nP B i k < _
            omega
          · show (LS B (pu P i (nP B i k)))[(nP B i k).toNat]? = _
            rw [hpt]; exact gp
          · show (LS B (pu P i (nP B i k)))[(nP B i k).toNat]? = _
            rw [hpt]; exact gp
      · exact brT rfl (stay fun q => hm (lst_mem.2 q.2.1)))
    0 (Nat.zero_le _)
  exact key
def par (B : List HB) (j : Nat) : Int := nP B j B.length
theorem c22_ok {B : List HB} (hB : B.length ≤ 100000) (hb : ∀ x ∈ B, x.2.length ≤ 100000) {k : List LO → Prop} (h : k (LS B (par B))) : c22 (LS B fun _ => -1) k := by
  constructor
  constructor
  intro I hI
  rw [LS_len]
  have key := upInd (N := B.length) (M := fun i => I (B.length : Int) (i : Int) (LS B fun j => if j < i then par B j else -1))
    (hI _ _ _ (brDn (by omega) (by
      rw [LS_congr (Q := par B) fun j hj => by rw [if_pos hj]]; exact h)))
    (fun i hi ih => by
      apply hI
      rw [LS_len]
      have e1 : (fun j => if j < i then par B j else (-1 : Int)) = pu (fun j => if j < i then par B j else -1) i (-1) := funext fun j => by
        unfold pu
        by_cases q : j = i
        · subst q; rw [if_pos rfl, if_neg (Nat.lt_irrefl _)]
        · rw [if_neg q]
      have e2 : pu (fun j => if j < i then par B j else (-1 : Int)) i (nP B i B.length) = fun j => if j < i + 1 then par B j else -1 := funext fun j => by
        unfold pu
        by_cases q : j = i
        · subst q; rw [if_pos rfl, if_pos (Nat.lt_succ_self _)]; rfl
        · rw [if_neg q]
          dsimp only
          by_cases w : j < i
          · rw [if_pos w, if_pos (by omega)]
          · rw [if_neg w, if_neg (by omega)]
      rw [e1]
      refine brD (by omega) (l22r4_ok hB hb hi ?_)
      rw [e2, wrapS (n := i) (by omega)]
      exact ih)
    0 (Nat.zero_le _)
  have e0 : (LS B fun j => if j < 0 then par B j else -1) = LS B fun _ => -1 := LS_congr fun j _ => if_neg (Nat.not_lt_zero j)
  rw [e0] at key
  exact key
theorem hbs_len {f : FU} : (hbs f).length ≤ f.2.1.length := by
  unfold hbs
  rw [List.length_map]; exact sel_len
theorem hbs_bl {f : FU} {x : HB} (h : x ∈ hbs f) : x.2.length ≤ f.2.1.length := by
  unfold hbs at h
  obtain ⟨j, _, rfl⟩ := List.mem_map.1 h
  exact sel_len
theorem c6_ok {f : FU} (hz : Szu f) (h12 : f.2.1.length ≤ 12) {k : Int → List LO → Prop} (h0 : fErr f ≠ 0 → k (fErr f) []) (h1 : fErr f = 0 → k 0 (LS (hbs f) (par (hbs f)))) : c6 f k := by
  constructor
  refine c16_ok hz h12 (fun e => brT (by simpa using e) (h0 e)) fun e => brF rfl (c17_ok hz h12 (fun w => (w e).elim) fun _ => c18_ok hz (fun w => (w e).elim) fun _ => ?_)
  obtain ⟨m, hf, hU⟩ := fErr_ok e
  refine l6r8_ok hf h12 ?_
  rw [← LS_map]
  have h3 := hbs_len (f := f)
  exact c22_ok (by omega) (fun x hx => by have := hbs_bl hx; omega) (h1 e)
def dcn (n : Nat) (C : Nat → Nat) : List Int := (List.range n).map fun k => (C k : Int)
theorem dcn_len {n : Nat} {C : Nat → Nat} : (dcn n C).length = n := by simp [dcn]
theorem dcn_get {n k : Nat} {C : Nat → Nat} (h : k < n) : (dcn n C)[k]? = some (C k : Int) := by
  unfold dcn
  rw [List.getElem?_map, List.getElem?_range h]; rfl
theorem dcn_set {n k v : Nat} {C : Nat → Nat} (h : k < n) : (dcn n C).set k (v : Int) = dcn n fun i => if i = k then v else C i := by
  refine List.ext_getElem? fun i => ?_
  by_cases hi : i < n
  · rw [dcn_get hi, List.getElem?_set]
    by_cases q : k = i
    · subst q
      rw [if_pos rfl, if_pos (by rw [dcn_len]; exact h), if_pos rfl]
    · rw [if_neg q, dcn_get hi, if_neg (fun e => q e.symm)]
  · rw [List.getElem?_eq_none (by rw [List.length_set, dcn_len]; omega), List.getElem?_eq_none (by rw [dcn_len]; omega)]
theorem dcn_inc {n k : Nat} {C : Nat → Nat} {l : List Nat} (h : k < n) : (dcn n fun j => C j + l.count j).set k ((C k + l.count k + 1 : Nat) : Int) = dcn n fun j => C j + (l ++ [k]).count j := by
  rw [dcn_set h]
  congr 1
  refine funext fun i => ?_
  by_cases q : i = k
  · subst q
    rw [if_pos rfl, List.count_append, List.count_singleton_self]; omega
  · rw [if_neg q, List.count_append, List.count_singleton, if_neg (by simpa using fun e => q e.symm)]; rfl
theorem dcn_congr {n : Nat} {C D : Nat → Nat} (h : ∀ j, j < n → C j = D j) : dcn n C = dcn n D := List.map_congr_left fun j hj => by rw [h j (List.mem_range.1 hj)]
theorem dcn_zero {n : Nat} : List.replicate n (0 : Int) = dcn n fun _ => 0 := by
  refine List.ext_getElem? fun i => ?_
  by_cases hi : i < n
  · rw [dcn_get hi, List.getElem?_replicate, if_pos hi]; rfl
  · rw [List.getElem?_eq_none (by simp; omega), List.getElem?_eq_none (by rw [dcn_len]; omega)]
noncomputable def dc (f : FU) (l : List Nat) (k : Nat) : Nat := (l.map fun h => (bl f h).count k).sum
theorem dc_s {f : FU} {l : List Nat} {h k : Nat} : dc f (l ++ [h]) k = dc f l k + (bl f h).count k := by
  unfold dc
  rw [List.map_append, List.sum_append]
  simp
theorem dc_le {f : FU} {k : Nat} (hn : f.2.1.length ≤ 128) : ∀ {l : List Nat}, dc f l k ≤ 128 * l.length
  | [] => Nat.le_refl _
  | h :: l => by
    have h1 := dc_le hn (k := k) (l := l)
    have h2 := List.count_le_length (a := k) (l := bl f h)
    have h3 : (bl f h).length ≤ f.2.1.length := sel_len
    have : dc f (h :: l) k = (bl f h).count k + dc f l k := by unfold dc; simp
    rw [this, List.length_cons]
    omega
theorem l7r9_ok {n : Nat} (hn : n ≤ 128) {l : List Nat} (hl : l.length ≤ 100000) (hm : ∀ k ∈ l, k < n) {C : Nat → Nat} (hC : ∀ j, C j ≤ 100000) {s1 s2 : Int} {s7 : List LO} {K : Int → Int → List Int → List LO → Prop} (h : K s1 s2 (dcn n fun j => C j + l.count j) s7) : l7r9 K s1 s2 (lst l) (l.length : Int) 0 (dcn n C) s7 := by
  constructor
  intro I hI
  have key := upInd (N := l.length) (M := fun i => I s1 s2 (lst l) (l.length : Int) (i : Int) (dcn n fun j => C j + (l.take i).count j) s7)
    (by rw [List.take_length]; exact hI _ _ _ _ _ _ _ (brDn (by omega) h))
    (fun i hi ih => by
      apply hI
      have hk := hm _ (List.getElem_mem hi)
      have hg := lst_get hi
      rw [List.take_succ_eq_append_getElem hi] at ih
      generalize l[i] = k at hk hg ih
      have hc := List.count_le_length (a := k) (l := l.take i)
      rw [List.length_take] at hc
      have hC := hC k
      have hll := dcn_len (n := n) (C := fun j => C j + (l.take i).count j)
      have gk := dcn_get (C := fun j => C j + (l.take i).count j) hk
      rw [← dcn_inc hk] at ih
      rw [wrapS (n := i) (by omega)]
      refine brD (by omega) (needS (by rw [at?_nat]; exact hg) (brD (by omega) ?_))
      rw [Int.toNat_natCast]
      refine needS gk (brD (by omega) (needS gk ?_))
      rw [wrapS (n := C k + (l.take i).count k) (by omega)]
      exact ih)
    0 (Nat.zero_le _)
  exact key
theorem l7r6_ok {f : FU} (hn : f.2.1.length ≤ 128) {P : Nat → Int} {K : List Int → Prop} (h : K (dcn f.2.1.length (dc f (hds f)))) : l7r6 K ((hbs f).length : Int) 0 (dcn f.2.1.length fun _ => 0) (LS (hbs f) P) := by
  have hll : (hbs f).length = (hds f).length := List.length_map _
  have hlh : (hds f).length ≤ f.2.1.length := sel_len
  rw [hll]
  constructor
  intro I hI
  have key := upInd (N := (hds f).length) (M := fun i => I ((hds f).length : Int) (i : Int) (dcn f.2.1.length (dc f ((hds f).take i))) (LS (hbs f) P))
    (by rw [List.take_length]; exact hI _ _ _ _ (brDn (by omega) h))
    (fun i hi ih => by
      apply hI
      have hg : (hbs f)[i]? = some (hb f (hds f)[i]) := by unfold hbs; rw [List.getElem?_map, List.getElem?_eq_getElem hi]; rfl
      rw [List.take_succ_eq_append_getElem hi] at ih
      generalize (hds f)[i] = x at hg ih
      have hLl := LS_len (B := hbs f) (P := P)
      refine brD (by omega) (brD (by omega) ?_)
      rw [Int.toNat_natCast]
      refine needS (LS_get hg) ?_
      show l7r9 _ _ _ (lst (bl f x)) ((lst (bl f x)).length : Int) 0 _ _
      rw [lst_len]
      have hbl : (bl f x).length ≤ f.2.1.length := sel_len
      refine l7r9_ok (l := bl f x) hn (by omega) (fun k hk => (sel_mem.1 hk).1) (fun j => ?_) ?_
      · have := dc_le (f := f) (k := j) hn (l := (hds f).take i)
        rw [List.length_take] at this
        omega
      · rw [wrapS (n := i) (by omega)]
        have : (fun j => dc f ((hds f).take i) j + (bl f x).count j) = dc f ((hds f).take i ++ [x]) := funext fun j => dc_s.symm
        rw [this]
        exact ih)
    0 (Nat.zero_le _)
  exact key
theorem c7_ok {f : FU} (hz : Szu f) (h12 : f.2.1.length ≤ 12) {k : Int → List Int → Prop} (h0 : fErr f ≠ 0 → k (fErr f) []) (h1 : fErr f = 0 → k 0 (dcn f.2.1.length (dc f (hds f)))) : c7 f k := by
  constructor
  refine c6_ok hz h12 (fun e => brT (by simpa using e) (h0 e)) fun e => brF rfl (brD (by omega) ?_)
  rw [Int.toNat_natCast, dcn_zero, LS_len]
  exact l7r6_ok (by omega) (h1 e)
structure Fs (f : FU) (h k : Nat) (s : List Bool) : Prop where
  len : s.length = f.2.1.length
  k0 : Tr s k
  snd : ∀ j, Tr s j → Fw f h k j
theorem l10r12_ok {f : FU} {m : MP} (hf : FOk f m) {h k0 k : Nat} {b : BK} (hb : f.2.1[k]? = some b) {s3 s4 s6 s7 : Int} {s5 : List BK} {k1 : Int → Int → Int → List BK → Int → Int → FU → List Bool → Prop} {s : List Bool} (hs : Fs f h k0 s)
    (hk : ∀ s', Fs f h k0 s' → (∀ j, Tr s j → Tr s' j) → (Tr s k → ∀ e ∈ tos b, e.1 ≠ (h : Int) → Tr s' e.1.toNat) → k1 (h : Int) s3 s4 s5 s6 s7 f s') :
    l10r12 k1 (h : Int) (k : Int) s3 s4 s5 s6 s7 (tos b) ((tos b).length : Int) 0 f s := by
  have hn := hf.le
  have hkl := (List.getElem?_eq_some_iff.1 hb).1
  have htl := hf.tl b (List.mem_of_getElem? hb)
  have htl : (tos b).length ≤ 257 := htl
  constructor
  intro I hI
  have key := dropInd (l := tos b) (M := fun i r => ∀ s, Fs f h k0 s → (∀ s', Fs f h k0 s' → (∀ j, Tr s j → Tr s' j) → (Tr s k → ∀ e ∈ r, e.1 ≠ (h : Int) → Tr s' e.1.toNat) → k1 (h : Int) s3 s4 s5 s6 s7 f s') → I (h : Int) (k : Int) s3 s4 s5 s6 s7 (tos b) ((tos b).length : Int) (i : Int) f s)
    (fun s hs hk => hI _ _ _ _ _ _ _ _ _ _ _ _ (brDn (by omega) (hk s hs (fun _ q => q) fun _ e he => by cases he)))
    (fun i hi ih s hs hk => by
      apply hI
      have hx : (tos b)[i] ∈ tos b := List.getElem_mem hi
      obtain ⟨q1, q2, _⟩ := hf.edg b (List.mem_of_getElem? hb) _ hx
      obtain ⟨e, he⟩ := Int.eq_ofNat_of_zero_le (show 0 ≤ ((tos b)[i]).1 by omega)
      have hel : e < f.2.1.length := by omega
      have hsl := hs.len
      have hT : Tr s k ↔ s[k]'(by omega) = true := tr_get (by omega)
      rw [wrapS (n := i) (by omega)]
      refine brD (by omega) (needAt hi ?_)
      rw [he, Int.toNat_natCast, Int.toNat_natCast]
      refine brD (by omega) (needNth (by omega) (brB (fun t => brN (fun ne => brD (by omega) (needNth (by omega) ?_)) fun ne => ?_) fun t => ?_))
      · refine ih _ ⟨by simp [hsl], ?_, fun j hj => ?_⟩ fun s' h1 h2 h3 => hk s' h1 (fun j hj => h2 j ?_) fun tk x hx' hxw => ?_
        · rw [tr_set (by omega)]
          by_cases q : k0 = e
          · exact .inl ⟨q, rfl⟩
          · exact .inr ⟨q, hs.k0⟩
        · rcases (tr_set (by omega)).1 hj with ⟨rfl, _⟩ | ⟨_, q⟩
          · exact .s (hs.snd k (hT.2 t)) ⟨b, hb, _, hx, he⟩ (by omega)
          · exact hs.snd j q
        · by_cases q : j = e
          · exact (tr_set (by omega)).2 (.inl ⟨q, rfl⟩)
          · exact (tr_set (by omega)).2 (.inr ⟨q, hj⟩)
        · rcases List.mem_cons.1 hx' with rfl | hx'
          · rw [he, Int.toNat_natCast]; exact h2 e ((tr_set (by omega)).2 (.inl ⟨rfl, rfl⟩))
          · refine h3 ?_ x hx' hxw
            by_cases q : k = e
            · exact (tr_set (by omega)).2 (.inl ⟨q, rfl⟩)
            · exact (tr_set (by omega)).2 (.inr ⟨q, tk⟩)
      · refine ih s hs fun s' h1 h2 h3 => hk s' h1 h2 fun tk x hx' hxw => ?_
        rcases List.mem_cons.1 hx' with rfl | hx'
        · exact (hxw (he.trans ne)).elim
        · exact h3 tk x hx' hxw
      · exact ih s hs fun s' h1 h2 h3 => hk s' h1 h2 fun tk => by rw [hT.1 tk] at t; cases t)
  exact key s hs hk
theorem l10r9_ok {f : FU} {m : MP} (hf : FOk f m) {h k0 : Nat} {s2 s3 : Int} {k1 : Int → Int → Int → FU → List Bool → Prop} {s : List Bool} (hs : Fs f h k0 s)
    (hk : ∀ s', Fs f h k0 s' → (∀ j, Tr s j → Tr s' j) → (∀ k j, Tr s k → Eg f k j → j ≠ h → Tr s' j) → k1 (h : Int) s2 s3 f s') : l10r9 k1 (h : Int) s2 s3 f.2.1 (f.2.1.length : Int) 0 f s := by
  have hn := hf.le
  constructor
  intro I hI
  have key := upInd (N := f.2.1.length) (M := fun i => ∀ s, Fs f h k0 s → (∀ s', Fs f h k0 s' → (∀ j, Tr s j → Tr s' j) → (∀ k j, i ≤ k → Tr s k → Eg f k j → j ≠ h → Tr s' j) → k1 (h : Int) s2 s3 f s') → I (h : Int) s2 s3 f.2.1 (f.2.1.length : Int) (i : Int) f s)
    (fun s hs hk => hI _ _ _ _ _ _ _ _ (brDn (by omega) (hk s hs (fun _ q => q) fun k j q _ e _ => by have := (e.lt hf).1; omega)))
    (fun i hi ih s hs hk => by
      apply hI
      have hb := List.getElem?_eq_getElem hi
      refine brD (by omega) (needAt hi (l10r12_ok (b := f.2.1[i]) hf hb hs fun s' h1 h2 h3 => ?_))
      show I (h : Int) s2 s3 f.2.1 (f.2.1.length : Int) (IntKind.wrap .i64 ((i : Int) + 1)) f s'
      rw [wrapS (n := i) (by omega)]
      refine ih s' h1 fun s2 g1 g2 g3 => hk s2 g1 (fun j q => g2 j (h2 j q)) fun k j q1 q2 q3 q4 => ?_
      by_cases q : k = i
      · subst q
        obtain ⟨b', w1, e, w2, w3⟩ := q3
        rw [hb] at w1
        obtain rfl := Option.some.inj w1
        have := h3 q2 e w2 (by rw [w3]; omega)
        rw [w3, Int.toNat_natCast] at this
        exact g2 j this
      · exact g3 k j (by omega) (h2 k q2) q3 q4)
    0 (Nat.zero_le _)
  exact key s hs fun s' h1 h2 h3 => hk s' h1 h2 fun k j q => h3 k j (Nat.zero_le _) q
theorem l10r7_ok {f : FU} {m : MP} (hf : FOk f m) {h k0 : Nat} {k1 : Int → FU → List Bool → Prop} {s : List Bool} (hs : Fs f h k0 s) (hk : ∀ s', s'.length = f.2.1.length → (∀ j, Tr s' j ↔ Fw f h k0 j) → k1 (h : Int) f s') : l10r7 k1 (h : Int) (f.2.1.length : Int) 0 f s := by
  have hn := hf.le
  constructor
  intro I hI
  have key := upInd (N := f.2.1.length) (M := fun r => ∀ s, Fs f h k0 s → ((∀ j, Fw f h k0 j → Tr s j) ∨ r + 1 ≤ s.count true) → I (h : Int) (f.2.1.length : Int) (r : Int) f s)
    (fun s hs q => hI _ _ _ _ _ (brDn (by omega) (hk s hs.len fun j => ⟨hs.snd j, fun w2 => by
      rcases q with q | q
      · exact q j w2
      · have := List.count_le_length (a := true) (l := s)
        have := hs.len
        omega⟩)))
    (fun r hr ih s hs q => by
      apply hI
      refine brD (by omega) (l10r9_ok hf hs fun s' h1 h2 h3 => ?_)
      show I (h : Int) (f.2.1.length : Int) (IntKind.wrap .i64 ((r : Int) + 1)) f s'
      rw [wrapS (n := r) (by omega)]
      refine ih s' h1 ?_
      rcases q with q | q
      · exact .inl fun j w2 => h2 j (q j w2)
      · obtain ⟨c1, c2⟩ := cnt_eq (s := s) (s' := s') (by rw [hs.len, h1.len]) h2
        by_cases c3 : s'.count true ≤ s.count true
        · refine .inl fun j w2 => ?_
          have e := c2 c3
          induction w2 with
          | z => exact h1.k0
          | s _ e1 e2 ih => exact h3 _ _ (by rw [← e]; exact ih) e1 e2
        · exact .inr (by omega))
    0 (Nat.zero_le _)
  refine key s hs (.inr ?_)
  have : true ∈ s := List.mem_of_getElem? hs.k0
  have := List.count_pos_iff.2 this
  omega
theorem l28r6_ok {t : Nat} {p : Nat} {s3 : List BK} {s4 s5 : Int} {l : List ED} (hll : l.length ≤ 257) {A : List Nat} (hA : A.length + l.length ≤ 100000) {k : Int → List BK → Int → Int → List Int → Prop}
    (h : k (t : Int) s3 s4 s5 (lst (A ++ pe p t l))) : l28r6 k (t : Int) (p : Int) s3 s4 s5 l (l.length : Int) 0 (lst A) := by
  constructor
  intro I hI
  have key := dropInd (l := l) (M := fun i r => i + r.length = l.length → ∀ A : List Nat, A.length + r.length ≤ 100000 → k (t : Int) s3 s4 s5 (lst (A ++ pe p t r)) → I (t : Int) (p : Int) s3 s4 s5 l (l.length : Int) (i : Int) (lst A))
    (fun _ A _ h => hI _ _ _ _ _ _ _ _ _ (brDn (by omega) (by simpa [pe] using h)))
    (fun i hi ih hlen A hA h => by
      apply hI
      rw [List.length_cons] at hA hlen
      rw [wrapS (n := i) (by omega)]
      refine brD (by omega) (needAt hi (brE (fun e => brT (roomS (by rw [lst_len]; omega)) ?_) fun e => ?_))
      · rw [lst_snoc]
        refine ih (by omega) _ (by rw [List.length_append]; simp only [List.length_singleton]; omega) ?_
        have : A ++ [p] ++ pe p t (List.drop (i + 1) l) = A ++ pe p t (l[i] :: List.drop (i + 1) l) := by
          unfold pe
          rw [List.filter_cons, if_pos (by rw [e]; exact beq_self_eq_true _), List.map_cons, List.append_assoc]; rfl
        rw [this]; exact h
      · refine ih (by omega) A (by omega) ?_
        have : pe p t (l[i] :: List.drop (i + 1) l) = pe p t (List.drop (i + 1) l) := by
          unfold pe
          rw [List.filter_cons, if_neg (by simpa using e)]
        rw [← this]; exact h)
  exact key (by omega) A hA h
theorem c28_ok' {f : FU} {m : MP} (hf : FOk f m) {t : Nat} {k : List Int → Prop} (h : k (lst (prd f f.2.1.length t))) : c28 f (t : Int) k := by
  have hn := hf.le
  constructor
  constructor
  intro I hI
  have key := upInd (N := f.2.1.length) (M := fun i => I (t : Int) f.2.1 (f.2.1.length : Int) (i : Int) (lst (prd f i t))) (hI _ _ _ _ _ (brDn (by omega) h)) (fun i hi ih => by
    apply hI
    have hb := List.getElem_mem hi
    have ht : tosAt f i = tos f.2.1[i] := by unfold tosAt; rw [List.getElem?_eq_getElem hi]
    refine brD (by omega) (needAt hi ?_)
    refine l28r6_ok (l := tos f.2.1[i]) (hf.tl _ hb) ?_ ?_
    · have := prd_len hf (k := t) i
      have := hf.tl _ hb
      unfold tos
      omega
    · show I _ _ _ (IntKind.wrap .i64 ((i : Int) + 1)) _
      rw [wrapS (n := i) (by omega), ← ht]
      exact ih) 0 (Nat.zero_le _)
  exact key
theorem l10r20_ok {f : FU} {m : MP} (hf : FOk f m) (hz : Szu f) {a : Nat} {P : List Nat} (hP : ∀ p ∈ P, p < f.2.1.length) (hl : P.length ≤ 100000) {seen : List Bool} (hsl : seen.length = f.2.1.length) {Q : Nat → Prop} (hs : ∀ j, Tr seen j ↔ Q j) {k1 : Bool → Prop} {k2 : Prop}
    (h1 : (∃ p ∈ P, Q p ∧ Dom f a p) → k1 true) (h2 : (∀ p ∈ P, ¬ (Q p ∧ Dom f a p)) → k2) : l10r20 k1 k2 (a : Int) ((lst P).length : Int) 0 f seen (lst P) := by
  constructor
  intro I hI
  rw [lst_len]
  have key := upInd (N := P.length) (M := fun i => (∀ p ∈ P.take i, ¬ (Q p ∧ Dom f a p)) → I (a : Int) (P.length : Int) (i : Int) f seen (lst P))
    (fun w => hI _ _ _ _ _ _ (brDn (by omega) (h2 (by rw [List.take_length] at w; exact w))))
    (fun i hi ih w => by
      apply hI
      have hpm := List.getElem_mem hi
      have hp : P[i] < f.2.1.length := hP _ hpm
      have hg : (lst P)[i]? = some (P[i] : Int) := by rw [List.getElem?_map, List.getElem?_eq_getElem hi]; rfl
      have hll := lst_len (l := P)
      rw [List.take_succ_eq_append_getElem hi] at ih
      generalize P[i] = p at hp hg ih hpm
      have next : ¬ (Q p ∧ Dom f a p) → I (a : Int) (P.length : Int) ((i + 1 : Nat) : Int) f seen (lst P) := fun q => ih fun r hr => by
        rcases List.mem_append.1 hr with hr | hr
        · exact w r hr
        · rw [List.mem_singleton.1 hr]; exact q
      have hT : Tr seen p ↔ seen[p]'(by omega) = true := tr_get (by omega)
      rw [wrapS (n := i) (by omega)]
      refine brD (by omega) (brD (by omega) ?_)
      rw [Int.toNat_natCast]
      refine needS hg (brD (by omega) ?_)
      rw [Int.toNat_natCast]
      refine needNth (by omega) (brB (fun t => c29_ok hf hz hp (fun d => brT rfl (h1 ⟨p, hpm, (hs p).1 (hT.2 t), d⟩)) fun d => brF rfl (next fun q => q.2 d)) fun t => next fun q => ?_)
      rw [hT.1 ((hs p).2 q.1)] at t; cases t)
    0 (Nat.zero_le _)
  exact key fun p hp => by cases hp
theorem l9r3_ok {f : FU} {m : MP} (hf : FOk f m) (hz : Szu f) {h : Nat} (hh : h < f.2.1.length) {P : List Nat} (hP : ∀ p ∈ P, p < f.2.1.length) (hl : P.length ≤ 100000) {seen : List Bool} (hsl : seen.length = f.2.1.length) (hs : ∀ j, Tr seen j ↔ Rc f (-1) j) {k1 : Bool → Prop} {k2 : Prop}
    (h1 : (Rc f (-1) h ∧ ∃ p ∈ P, Rc f (-1) p ∧ Dom f h p) → k1 true) (h2 : (∀ p ∈ P, ¬ (Rc f (-1) h ∧ Rc f (-1) p ∧ Dom f h p)) → k2) : l9r3 k1 k2 (h : Int) ((lst P).length : Int) 0 f seen (lst P) := by
  constructor
  intro I hI
  rw [lst_len]
  have key := upInd (N := P.length) (M := fun i => (∀ p ∈ P.take i, ¬ (Rc f (-1) h ∧ Rc f (-1) p ∧ Dom f h p)) → I (h : Int) (P.length : Int) (i : Int) f seen (lst P))
    (fun w => hI _ _ _ _ _ _ (brDn (by omega) (h2 (by rw [List.take_length] at w; exact w))))
    (fun i hi ih w => by
      apply hI
      have hpm := List.getElem_mem hi
      have hp : P[i] < f.2.1.length := hP _ hpm
      have hg : (lst P)[i]? = some (P[i] : Int) := by rw [List.getElem?_map, List.getElem?_eq_getElem hi]; rfl
      have hll := lst_len (l := P)
      rw [List.take_succ_eq_append_getElem hi] at ih
      generalize P[i] = p at hp hg ih hpm
      have next : ¬ (Rc f (-1) h ∧ Rc f (-1) p ∧ Dom f h p) → I (h : Int) (P.length : Int) ((i + 1 : Nat) : Int) f seen (lst P) := fun q => ih fun r hr => by
        rcases List.mem_append.1 hr with hr | hr
        · exact w r hr
        · rw [List.mem_singleton.1 hr]; exact q
      have hT : Tr seen p ↔ seen[p]'(by omega) = true := tr_get (by omega)
      have hH : Tr seen h ↔ seen[h]'(by omega) = true := tr_get (by omega)
      rw [wrapS (n := i) (by omega)]
      refine brD (by omega) (brD (by omega) ?_)
      rw [Int.toNat_natCast, Int.toNat_natCast]
      refine needS hg (brD (by omega) (needNth (by omega) (brB (fun th => brD (by omega) ?_) fun th => next fun q => ?_)))
      · rw [Int.toNat_natCast]
        refine needNth (by omega) (brB (fun t => c29_ok hf hz hp (fun d => brT rfl (h1 ⟨(hs h).1 (hH.2 th), p, hpm, (hs p).1 (hT.2 t), d⟩)) fun d => brF rfl (next fun q => q.2.2 d)) fun t => next fun q => ?_)
        rw [hT.1 ((hs p).2 q.2.1)] at t; cases t
      · rw [hH.1 ((hs h).2 q.1)] at th; cases th)
    0 (Nat.zero_le _)
  exact key fun p hp => by cases hp
theorem c9_ok {f : FU} {m : MP} (hf : FOk f m) (hz : Szu f) {h : Nat} (hh : h < f.2.1.length) {k : Bool → Prop} (h1 : IsHd f h → k true) (h2 : ¬ IsHd f h → k false) : c9 f (h : Int) k := by
  have hn := hf.le
  have := prd_len hf (k := h) f.2.1.length
  constructor
  refine c25_ok hf hz fun s hsl hs => c28_ok' hf (l9r3_ok hf hz hh (P := prd f f.2.1.length h) (fun p hp => ((prd_mem _).1 hp).1) (by omega) hsl hs (fun ⟨w1, p, w2, w3, w4⟩ => h1 ⟨w1, p, w3, ((prd_mem _).1 w2).2, w4⟩) fun w => h2 fun ⟨w1, p, w2, w3, w4⟩ => w p ((prd_mem _).2 ⟨(w3.lt hf).1, w3⟩) ⟨w1, w2, w4⟩)
theorem c10_ok {f : FU} {m : MP} (hf : FOk f m) (hz : Szu f) {h k : Nat} (hk : k < f.2.1.length) {K : Bool → Prop} (h1 : (k = h ∨ Lp f h k) → K true) (h2 : ¬ (k = h ∨ Lp f h k) → K false) : c10 f (h : Int) (k : Int) K := by
  have hn := hf.le
  have same : k = h → K ((k : Int) == (h : Int)) := fun e => by
    rw [e, beq_self_eq_true]; exact h1 (.inl e)
  constructor
  refine c25_ok hf hz fun s hsl hs => ?_
  rw [Int.toNat_natCast, Int.toNat_natCast]
  have hT : Tr s k ↔ s[k]'(by omega) = true := tr_get (by omega)
  refine brD (by omega) (needNth (by omega) (brB (fun t => ?_) fun t => ?_))
  · by_cases e : k = h
    · exact same e
    · have : ((k : Int) == (h : Int)) = false := by simp; omega
      rw [this]
      refine h2 fun w => ?_
      rcases w with w | w
      · exact e w
      · rw [hT.1 ((hs k).2 w.rc)] at t; cases t
  · have hr : Rc f (-1) k := (hs k).1 (hT.2 (by simpa using t))
    refine brE (fun e => same (by omega)) fun e => ?_
    have hkh : k ≠ h := fun w => e (by rw [w])
    refine brD (by omega) (brD (by rw [List.length_replicate]; omega) (needNth (by rw [List.length_replicate]; omega) ?_))
    have hTr : ∀ j, Tr ((List.replicate f.2.1.length false).set k true) j ↔ j = k := fun j => by
      rw [tr_set (by simp; omega)]
      have : ¬ Tr (List.replicate f.2.1.length false) j := fun q => by
        unfold Tr at q
        rw [List.getElem?_replicate] at q
        split at q
        · cases q
        · cases q
      exact ⟨fun q => q.elim And.left fun q => (this q.2).elim, fun q => .inl ⟨q, rfl⟩⟩
    refine l10r7_ok hf (k0 := k) ⟨by simp, (hTr k).2 rfl, fun j hj => by rw [(hTr j).1 hj]; exact .z⟩ fun s' g1 g2 => c28_ok' hf ?_
    have := prd_len hf (k := h) f.2.1.length
    refine l10r20_ok hf hz (P := prd f f.2.1.length h) (fun p hp => ((prd_mem _).1 hp).1) (by omega) g1 g2 (fun ⟨p, w1, w2, w3⟩ => h1 (.inr ((lp_iff hr hkh).2 ⟨p, w2, ((prd_mem _).1 w1).2, w3⟩))) fun w => h2 fun q => ?_
    rcases q with q | q
    · exact hkh q
    · obtain ⟨p, w1, w2, w3⟩ := (lp_iff hr hkh).1 q
      exact w p ((prd_mem _).2 ⟨(w2.lt hf).1, w2⟩) ⟨w1, w3⟩
theorem c11_ok {a b : List Int} {k : Bool → Prop} (hl : a.length ≤ 100000) (h : a = b) (hk : k true) : c11 a b k := by
  subst h
  constructor
  refine brN (fun e => (e rfl).elim) fun _ => ?_
  constructor
  intro I hI
  exact upInd (N := a.length) (M := fun i => I a a (a.length : Int) (i : Int)) (hI _ _ _ _ (brDn (by omega) hk)) (fun i hi ih => hI _ _ _ _ (by
    rw [wrapS (n := i) (by omega)]
    exact brD (by omega) (needAt hi (needAt hi (brN (fun e => (e rfl).elim) fun _ => ih))))) 0 (Nat.zero_le _)
theorem l3r13_ok {f : FU} {m : MP} (hf : FOk f m) (hz : Szu f) {e g : Int} {L : List LO} {d deep : List Int} {K : Int → Int → FU → List LO → List Int → List Int → List Int → Prop} (h : K e g f L d (lst (hds f)) deep) : l3r13 K e g (f.2.1.length : Int) 0 f L d [] deep := by
  have hn := hf.le
  constructor
  intro I hI
  exact upInd (N := f.2.1.length) (M := fun i => I e g (f.2.1.length : Int) (i : Int) f L d (lst (sel i (IsHd f))) deep)
    (hI _ _ _ _ _ _ _ _ _ (brDn (by omega) h))
    (fun i hi ih => by
      apply hI
      rw [wrapS (n := i) (by omega)]
      refine brD (by omega) (c9_ok hf hz hi (fun w => brT rfl (brT (roomS ?_) ?_)) fun w => brF rfl ?_)
      · have : (sel i (IsHd f)).length ≤ i := sel_len
        rw [lst_len]; omega
      · rw [sel_s w, ← lst_snoc] at ih; exact ih
      · rw [sel_n w] at ih; exact ih)
    0 (Nat.zero_le _)
theorem l3r25_ok {f : FU} {m : MP} (hf : FOk f m) (hz : Szu f) {h : Nat} {s1 s3 s4 : Int} {L : List LO} {d hs : List Int} {C : Nat → Nat} (hC : ∀ j, C j ≤ 100000) {K : Int → Int → Int → Int → FU → List LO → List Int → List Int → List Int → List Int → Prop} (hk : K s1 (h : Int) s3 s4 f L d (dcn f.2.1.length fun j => C j + (bl f h).count j) (lst (bl f h)) hs) : l3r25 K s1 (h : Int) s3 s4 (f.2.1.length : Int) 0 f L d (dcn f.2.1.length C) [] hs := by
  have hn := hf.le
  constructor
  intro I hI
  exact upInd (N := f.2.1.length) (M := fun i => I s1 (h : Int) s3 s4 (f.2.1.length : Int) (i : Int) f L d (dcn f.2.1.length fun j => C j + (sel i fun k => k = h ∨ Lp f h k).count j) (lst (sel i fun k => k = h ∨ Lp f h k)) hs)
    (hI _ _ _ _ _ _ _ _ _ _ _ _ (brDn (by omega) hk))
    (fun i hi ih => by
      apply hI
      rw [wrapS (n := i) (by omega)]
      have hsl : (sel i fun k => k = h ∨ Lp f h k).length ≤ i := sel_len
      refine brD (by omega) (c10_ok hf hz hi (fun w => brT rfl (brT (roomS (by rw [lst_len]; omega)) ?_)) fun w => brF rfl ?_)
      · rw [sel_s (Q := fun k => k = h ∨ Lp f h k) w, ← lst_snoc, ← dcn_inc hi] at ih
        generalize (sel i fun k => k = h ∨ Lp f h k) = l at ih hsl
        have hll := dcn_len (n := f.2.1.length) (C := fun j => C j + l.count j)
        have hc := List.count_le_length (a := i) (l := l)
        have hC := hC i
        have gk := dcn_get (C := fun j => C j + l.count j) hi
        refine brD (by omega) ?_
        rw [Int.toNat_natCast]
        refine needS gk (brD (by omega) (needS gk ?_))
        rw [wrapS (n := C i + l.count i) (by omega)]
        exact ih
      · rw [sel_n (Q := fun k => k = h ∨ Lp f h k) w] at ih; exact ih)
    0 (Nat.zero_le _)
theorem l3r21_ok {f : FU} {m : MP} (hf : FOk f m) (hz : Szu f) {P : Nat → Int} {d : List Int} {k1 : Bool → Prop} {K : List LO → List Int → List Int → Prop} (hk : K (LS (hbs f) P) d (dcn f.2.1.length (dc f (hds f)))) : l3r21 k1 K ((hds f).length : Int) 0 f (LS (hbs f) P) d (dcn f.2.1.length fun _ => 0) (lst (hds f)) := by
  have hn := hf.le
  have hll : (hbs f).length = (hds f).length := List.length_map _
  have hlh : (hds f).length ≤ f.2.1.length := sel_len
  constructor
  intro I hI
  exact upInd (N := (hds f).length) (M := fun i => I ((hds f).length : Int) (i : Int) f (LS (hbs f) P) d (dcn f.2.1.length (dc f ((hds f).take i))) (lst (hds f)))
    (by rw [List.take_length]; exact hI _ _ _ _ _ _ _ (brDn (by omega) hk))
    (fun i hi ih => by
      apply hI
      have hg : (hbs f)[i]? = some (hb f (hds f)[i]) := by unfold hbs; rw [List.getElem?_map, List.getElem?_eq_getElem hi]; rfl
      have hgh := lst_get hi
      rw [List.take_succ_eq_append_getElem hi] at ih
      generalize (hds f)[i] = x at hg ih hgh
      have hLl := LS_len (B := hbs f) (P := P)
      have gL := LS_get (P := P) hg
      have hhl := lst_len (l := hds f)
      have hbl : (bl f x).length ≤ f.2.1.length := sel_len
      refine brD (by omega) (brD (by omega) ?_)
      rw [Int.toNat_natCast]
      refine needS hgh (l3r25_ok hf hz (fun j => ?_) (brD (by omega) ?_))
      · have := dc_le (f := f) (k := j) hn (l := (hds f).take i)
        rw [List.length_take] at this
        omega
      · rw [Int.toNat_natCast, wrapS (n := i) (by omega)]
        have : (fun j => dc f ((hds f).take i) j + (bl f x).count j) = dc f ((hds f).take i ++ [x]) := funext fun j => dc_s.symm
        rw [this]
        refine needS gL (brN (fun e => (e rfl).elim) fun _ => brD (by omega) (needS gL (c11_ok ?_ rfl (brF rfl ih))))
        show (lst (bl f x)).length ≤ _
        rw [lst_len]; omega)
    0 (Nat.zero_le _)
theorem l3r39_ok {B : List HB} (hB : B.length ≤ 100000) (hb : ∀ x ∈ B, x.2.length ≤ 100000) {i : Nat} {x : HB} (hx : B[i]? = some x) {s3 s4 p : Int} {P : Nat → Int} {d deep : List Int} {K : Int → Int → Int → List LO → List Int → List Int → LO → Prop} (hK : K (nP B i B.length) s3 s4 (LS B P) d deep (lo x p)) : l3r39 K (i : Int) (-1) s3 s4 (B.length : Int) 0 (LS B P) d deep (lo x p) := by
  constructor
  intro I hI
  have key := upInd (N := B.length) (M := fun k => I (i : Int) (nP B i k) s3 s4 (B.length : Int) (k : Int) (LS B P) d deep (lo x p))
    (hI _ _ _ _ _ _ _ _ _ _ (brDn (by omega) hK))
    (fun k hk ih => by
      apply hI
      have hy := List.getElem?_eq_getElem hk
      have hyl := hb _ (List.getElem_mem hk)
      generalize B[k] = y at hy hyl
      have hll := LS_len (B := B) (P := P)
      have gk := LS_get (P := P) hy
      have stay : ¬ (k ≠ i ∧ x.1 ∈ y.2 ∧ (nP B i k < 0 ∨ y.2.length < nlen B (nP B i k))) → I (i : Int) (nP B i k) s3 s4 (B.length : Int) ((k + 1 : Nat) : Int) (LS B P) d deep (lo x p) := fun q => by
        rw [nP_n hx hy q] at ih; exact ih
      have move : (k ≠ i ∧ x.1 ∈ y.2 ∧ (nP B i k < 0 ∨ y.2.length < nlen B (nP B i k))) → I (i : Int) (k : Int) s3 s4 (B.length : Int) ((k + 1 : Nat) : Int) (LS B P) d deep (lo x p) := fun q => by
        rw [nP_y hx hy q] at ih; exact ih
      rw [wrapS (n := k) (by omega)]
      refine brD (by omega) (brD (by omega) ?_)
      rw [Int.toNat_natCast]
      refine needS gk (brN (fun e => ?_) fun e => ?_)
      · have hki : k ≠ i := fun w => e (by rw [w])
        refine brT rfl (brT (eqT_self _ _) (c12_ok (by rw [show (lo y _).2.1 = lst y.2 from rfl, lst_len]; have := hml; omega) (fun hm => brT rfl ?_) fun hm => brF rfl ?_))
        · have hm : x.1 ∈ y.2 := lst_mem.1 hm
          refine brP (fun w => ?_) fun w => ?_
          · have := move ⟨hki, hm, .inl w⟩
            exact ⟨this, this⟩
          · obtain ⟨q, hp, hpk⟩ := (nP_lt (B := B) (i := i) k).resolve_left fun q => w (by omega)
            have hz := List.getElem?_eq_getElem (show q < B.length by omega)
            generalize B[q]'(by omega) = z at hz
            have gp := LS_get (P := P) hz
            have hnl : nlen B (nP B i k) = z.2.length := by rw [hp]; exact nlen_p hz
            have hpt : (nP B i k).toNat = q := by omega
            have cmp : br (decide (((lst y.2).length : Int) < ((lst z.2).length : Int))) (I (i : Int) (k : Int) s3 s4 (B.length : Int) ((k + 1 : Nat) : Int) (LS B P) d deep (lo x p)) (I (i : Int) (nP B i k) s3 s4 (B.length : Int) ((k + 1 : Nat) : Int) (LS B P) d deep (lo x p)) := by
              rw [lst_len, lst_len]
              refine brP (fun q => move ⟨hki, hm, .inr (by omega)⟩) fun q => stay fun r => ?_
              rcases r.2.2 with r | r <;> omega
            rw [hpt]
            exact brD (by omega) ⟨brT (eqT_self _ _) (brD (by omega) (brT (by simp) (brT (by simp) (needS gp (brT (eqT_self _ _) cmp))))), needS gp (brT rfl (brT (eqT_self _ _) cmp))⟩
        · have := stay fun q => hm (lst_mem.2 q.2.1)
          exact ⟨this, this⟩
      · have := stay fun q => q.1 (by omega)
        exact ⟨this, this⟩)
    0 (Nat.zero_le _)
  exact key
theorem l3r35_ok {B : List HB} (hB : B.length ≤ 100000) (hb : ∀ x ∈ B, x.2.length ≤ 100000) {d deep : List Int} {k1 : Bool → Prop} {K : List Int → List Int → Prop} (hK : K d deep) : l3r35 k1 K (B.length : Int) 0 (LS B (par B)) d deep := by
  constructor
  intro I hI
  exact upInd (N := B.length) (M := fun i => I (B.length : Int) (i : Int) (LS B (par B)) d deep)
    (hI _ _ _ _ _ (brDn (by omega) hK))
    (fun i hi ih => by
      apply hI
      have hx := List.getElem?_eq_getElem hi
      generalize B[i] = x at hx
      have hll := LS_len (B := B) (P := par B)
      have gi := LS_get (P := par B) hx
      refine brD (by omega) (brD (by omega) ?_)
      rw [Int.toNat_natCast, hll]
      refine needS gi (l3r39_ok hB hb hx (brN (fun e => (e rfl).elim) fun _ => ?_))
      rw [wrapS (n := i) (by omega)]
      exact ih)
    0 (Nat.zero_le _)
theorem law3' {f : FU} (hz : Szu f) (h4 : ∀ {k : Bool → Prop}, k true → c4 k) {k : Bool → Prop} (hk : k true) : c3 f k := by
  constructor
  refine h4 (brF rfl (c5_ok hz (fun h12 => brF rfl ?_) (brT rfl hk)))
  refine c6_ok hz h12 (fun e => c7_ok hz h12 (fun _ => c8_ok hz (brT (by simpa using e) (brT (by simp) (brT (by simp) hk)))) fun w => (e w).elim) fun e => c7_ok hz h12 (fun w => (w e).elim) fun _ => c8_ok hz (brF (by simpa using e) ?_)
  obtain ⟨m, hf, hU⟩ := fErr_ok e
  have hl := hbs_len (f := f)
  have hll : (hbs f).length = (hds f).length := List.length_map _
  refine brD (by omega) (l3r13_ok hf hz (brF rfl (brF rfl (brF ?_ ?_))))
  · rw [LS_len, lst_len, hll]; simp
  · rw [Int.toNat_natCast, dcn_zero, lst_len]
    refine l3r21_ok hf hz ?_
    rw [LS_len]
    exact l3r35_ok (by omega) (fun x hx => by have := hbs_bl hx; omega) (c11_ok (by rw [dcn_len]; omega) rfl hk)
theorem c31_ok {Bk : List (Nat × Nat)} (hl : Bk.length ≤ 100000) {p h : Nat} {k : Bool → Prop} (h1 : (p, h) ∈ Bk → k true) (h2 : (p, h) ∉ Bk → k false) : c31 (Bk.map bt) ((p : Int), (h : Int), ()) k := by
  constructor
  constructor
  constructor
  intro I hI
  rw [List.length_map]
  have key := dropInd (l := Bk) (M := fun i r => ((p, h) ∈ r → k true) → ((p, h) ∉ r → k false) → I (Bk.map bt) (Bk.length : Int) (i : Int) ((p : Int), (h : Int), ()))
    (fun _ g2 => hI _ _ _ _ (brDn (by omega) (g2 (by simp))))
    (fun i hi ih g1 g2 => hI _ _ _ _ (by
      have hg : (Bk.map bt)[i]? = some (bt Bk[i]) := by rw [List.getElem?_map, List.getElem?_eq_getElem hi]; rfl
      generalize Bk[i] = x at hg g1 g2
      rw [wrapS (n := i) (by omega)]
      refine brD (by omega) (needS (by rw [at?_nat]; exact hg) (brB (fun t => ?_) fun t => ih (fun w => g1 (List.mem_cons_of_mem _ w)) fun w => g2 fun w2 => ?_))
      · have e : x = (p, h) := by
          simp [bt] at t
          obtain ⟨a, b⟩ := x
          obtain ⟨t1, t2⟩ := t
          rw [Prod.mk.injEq]
          exact ⟨by omega, by omega⟩
        have : decide ((i : Int) ≥ 0) = true := decide_eq_true (by omega)
        show k (decide ((i : Int) ≥ 0))
        rw [this]
        exact g1 (by rw [e]; exact List.mem_cons_self ..)
      · rcases List.mem_cons.1 w2 with w2 | w2
        · rw [← w2] at t
          simp [bt] at t
        · exact w w2))
  exact key h1 h2
def inc (dg : List Int) (e : Nat) : List Int := dg.set e (IntKind.wrap .i64 ((dg[e]?).getD 0 + 1))
def dcr (dg : List Int) (e : Nat) : List Int := dg.set e (IntKind.wrap .i64 ((dg[e]?).getD 0 - 1))
theorem inc_len {dg : List Int} {e : Nat} : (inc dg e).length = dg.length := List.length_set
theorem dcr_len {dg : List Int} {e : Nat} : (dcr dg e).length = dg.length := List.length_set
theorem c32_ok {dg : List Int} {e : Nat} (he : e < dg.length) {k : List Int → Prop} (h : k (inc dg e)) : c32 (e : Int) dg k := by
  have hg := List.getElem?_eq_getElem he
  unfold inc at h
  rw [hg] at h
  constructor
  refine brD (by omega) ?_
  rw [Int.toNat_natCast]
  exact needS hg (brD (by omega) (needS hg h))
def istep (Bk : List (Nat × Nat)) (p : Nat) (dg : List Int) (e : ED) : List Int := if (p, e.1.toNat) ∈ Bk then dg else inc dg e.1.toNat
theorem istep_len {Bk : List (Nat × Nat)} {p : Nat} {dg : List Int} {e : ED} : (istep Bk p dg e).length = dg.length := by
  unfold istep
  split
  · rfl
  · exact inc_len
theorem ifold_len {Bk : List (Nat × Nat)} {p : Nat} : ∀ {l : List ED} {dg : List Int}, (l.foldl (istep Bk p) dg).length = dg.length
  | [], _ => rfl
  | _ :: l, dg => by rw [List.foldl_cons, ifold_len (l := l), istep_len]
theorem l30r1_ok {f : FU} {Bk : List (Nat × Nat)} (hB : Bk.length ≤ 100000) {p n : Nat} {l : List ED} (hl : l.length ≤ 100000) (he : ∀ e ∈ l, 0 ≤ e.1 ∧ e.1 < (n : Int)) {dg : List Int} (hd : dg.length = n) {K : List Int → FU → List (Int × Int × Unit) → Prop} (h : K (l.foldl (istep Bk p) dg) f (Bk.map bt)) : l30r1 K (p : Int) l (l.length : Int) 0 dg f (Bk.map bt) := by
  constructor
  intro I hI
  have key := dropInd (l := l) (M := fun i r => ∀ dg : List Int, dg.length = n → K (r.foldl (istep Bk p) dg) f (Bk.map bt) → I (p : Int) l (l.length : Int) (i : Int) dg f (Bk.map bt))
    (fun dg _ h => hI _ _ _ _ _ _ _ (brDn (by omega) h))
    (fun i hi ih dg hd h => by
      apply hI
      obtain ⟨q1, q2⟩ := he _ (List.getElem_mem hi)
      rw [wrapS (n := i) (by omega)]
      refine brD (by omega) (needAt hi ?_)
      rw [List.foldl_cons] at h
      generalize l[i] = e at q1 q2 h
      obtain ⟨b, eb⟩ := Int.eq_ofNat_of_zero_le q1
      have hs : istep Bk p dg e = if (p, b) ∈ Bk then dg else inc dg b := by unfold istep; rw [eb]; rfl
      rw [eb]
      refine c31_ok hB (fun w => brF rfl (ih _ hd ?_)) fun w => brT rfl (c32_ok (by omega) (ih _ (inc_len.trans hd) ?_))
      · rw [hs, if_pos w] at h; exact h
      · rw [hs, if_neg w] at h; exact h)
  exact key dg hd h
theorem l14r8_ok {f : FU} {m : MP} (hf : FOk f m) {Bk : List (Nat × Nat)} (hB : Bk.length ≤ 100000) {L : List Nat} (hL : L.length ≤ 100000) (hLm : ∀ p ∈ L, p < f.2.1.length) {dg : List Int} (hd : dg.length = f.2.1.length) {K : List Int → List Int → FU → List (Int × Int × Unit) → Prop}
    (h : K (lst L) (L.foldl (fun dg p => (tosAt f p).foldl (istep Bk p) dg) dg) f (Bk.map bt)) : l14r8 K (L.length : Int) 0 (lst L) dg f (Bk.map bt) := by
  constructor
  intro I hI
  have key := dropInd (l := L) (M := fun i r => i + r.length = L.length → ∀ dg : List Int, dg.length = f.2.1.length → K (lst L) (r.foldl (fun dg p => (tosAt f p).foldl (istep Bk p) dg) dg) f (Bk.map bt) → I (L.length : Int) (i : Int) (lst L) dg f (Bk.map bt))
    (fun _ dg _ h => hI _ _ _ _ _ _ (brDn (by omega) h))
    (fun i hi ih hir dg hd h => by
      apply hI
      have hp := hLm _ (List.getElem_mem hi)
      have hg := lst_get hi
      have hll := lst_len (l := L)
      rw [List.length_cons] at hir
      rw [List.foldl_cons] at h
      generalize L[i] = p at hp hg h
      have hb := List.getElem?_eq_getElem hp
      have ht : tosAt f p = tos f.2.1[p] := by unfold tosAt; rw [hb]
      have hbm := List.getElem_mem hp
      refine brD (by omega) (brD (by omega) ?_)
      rw [Int.toNat_natCast, wrapS (n := i) (by omega)]
      refine needS hg ?_
      constructor
      refine needS (v := f.2.1[p]) (by rw [at?_nat]; exact hb) (l30r1_ok (l := tos f.2.1[p]) hB ?_ (fun e he => ?_) hd (ih (by omega) _ (ifold_len.trans hd) ?_))
      · have := hf.tl _ hbm
        unfold tos
        omega
      · obtain ⟨q1, q2, _⟩ := hf.edg _ hbm e he
        exact ⟨by omega, q2⟩
      · rw [← ht]; exact h)
  exact key (by simp) dg hd h
def gone (st : List Int × List Nat) (e : Nat) : List Int × List Nat := if ((dcr st.1 e)[e]?).getD 0 = 0 then (dcr st.1 e, st.2 ++ [e]) else (dcr st.1 e, st.2)
theorem take_rep {R : List Int} {w : List Nat} (h : R.take w.length = lst w) : w.length ≤ R.length := by
  have := congrArg List.length h
  rw [List.length_take, lst_len] at this
  omega
theorem c33_ok {dg : List Int} {w : List Nat} {e : Nat} (he : e < dg.length) (hw : w.length ≤ 100000) {R : List Int} (hR : R.take w.length = lst w) {k1 k3 : List Int → Nat → Nat → Nat → List Int → Prop} {k2 : List Int → List Int → Prop}
    (h1 : ∀ R : List Int, R.take (gone (dg, w) e).2.length = lst (gone (dg, w) e).2 → k1 (gone (dg, w) e).1 0 (gone (dg, w) e).2.length R.length R) (h2 : k2 (gone (dg, w) e).1 (lst (gone (dg, w) e).2)) : c33 (e : Int) dg 0 w.length R.length R k1 k2 k3 := by
  have hg := List.getElem?_eq_getElem he
  have hs : (dcr dg e)[e]? = some (IntKind.wrap .i64 (dg[e] - 1)) := by
    unfold dcr
    rw [List.getElem?_set, if_pos rfl, if_pos he, hg]; rfl
  have hd : dcr dg e = dg.set e (IntKind.wrap .i64 (dg[e] - 1)) := by unfold dcr; rw [hg]; rfl
  have hdl := dcr_len (dg := dg) (e := e)
  have hlR := take_rep hR
  unfold gone at h1 h2
  constructor
  refine brD (by omega) ?_
  rw [Int.toNat_natCast]
  refine needS hg (brD (by omega) (needS hg ?_))
  rw [← hd]
  refine brD (by omega) (needS hs (brE (fun z => ?_) fun z => ?_))
  · have z' : ((dcr dg e)[e]?).getD 0 = 0 := by rw [hs]; exact z
    dsimp only at h1 h2
    rw [if_pos z'] at h1 h2
    dsimp only at h1 h2
    simp only [Nat.zero_add]
    refine brP (fun fit => ?_) fun fit => brT (roomS (by omega)) (brD trivial ?_)
    · have hl : (R.take w.length ++ [(e : Int)] ++ R.drop (w.length + 1)).length = R.length := by
        rw [List.length_append, List.length_append, List.length_take, List.length_drop, List.length_singleton]; omega
      have hwl : (w ++ [e]).length = w.length + 1 := by simp
      have := h1 (R.take w.length ++ [(e : Int)] ++ R.drop (w.length + 1)) (by
        rw [hR, lst_snoc, List.take_left' (by rw [lst_len])])
      rw [hl, hwl] at this
      exact this
    · rw [hR, lst_snoc]; exact h2
  · have z' : ¬ ((dcr dg e)[e]?).getD 0 = 0 := by rw [hs]; exact z
    dsimp only at h1 h2
    rw [if_neg z'] at h1 h2
    exact h1 R hR
theorem c33v2_ok {dg : List Int} {w : List Nat} {e : Nat} (he : e < dg.length) (hw : w.length ≤ 100000) {k1 k2 : List Int → List Int → Prop}
    (h1 : k1 (gone (dg, w) e).1 (lst (gone (dg, w) e).2)) (h2 : k2 (gone (dg, w) e).1 (lst (gone (dg, w) e).2)) : c33v2 (e : Int) dg (lst w) k1 k2 := by
  have hg := List.getElem?_eq_getElem he
  have hs : (dcr dg e)[e]? = some (IntKind.wrap .i64 (dg[e] - 1)) := by
    unfold dcr
    rw [List.getElem?_set, if_pos rfl, if_pos he, hg]; rfl
  have hd : dcr dg e = dg.set e (IntKind.wrap .i64 (dg[e] - 1)) := by unfold dcr; rw [hg]; rfl
  have hdl := dcr_len (dg := dg) (e := e)
  unfold gone at h1 h2
  constructor
  refine brD (by omega) ?_
  rw [Int.toNat_natCast]
  refine needS hg (brD (by omega) (needS hg ?_))
  rw [← hd]
  refine brD (by omega) (needS hs (brE (fun z => ?_) fun z => ?_))
  · have z' : ((dcr dg e)[e]?).getD 0 = 0 := by rw [hs]; exact z
    dsimp only at h1
    rw [if_pos z'] at h1
    rw [lst_len, lst_snoc]
    exact brT (roomS (by omega)) h1
  · have z' : ¬ ((dcr dg e)[e]?).getD 0 = 0 := by rw [hs]; exact z
    dsimp only at h2
    rw [if_neg z'] at h2
    exact h2
def dstep (Bk : List (Nat × Nat)) (p : Nat) (st : List Int × List Nat) (e : ED) : List Int × List Nat := if (p, e.1.toNat) ∈ Bk then st else gone st e.1.toNat
theorem gone_dl {st : List Int × List Nat} {e : Nat} : (gone st e).1.length = st.1.length := by
  unfold gone
  split <;> exact dcr_len
theorem gone_wl {st : List Int × List Nat} {e : Nat} : (gone st e).2.length ≤ st.2.length + 1 := by
  unfold gone
  split
  · simp
  · exact Nat.le_succ _
theorem gone_m {st : List Int × List Nat} {e x : Nat} (h : x ∈ (gone st e).2) : x ∈ st.2 ∨ x = e := by
  unfold gone at h
  split at h
  · simpa using h
  · exact .inl h
theorem dfold_dl {Bk : List (Nat × Nat)} {p : Nat} : ∀ {l : List ED} {st : List Int × List Nat}, (l.foldl (dstep Bk p) st).1.length = st.1.length
  | [], _ => rfl
  | e :: l, st => by
    rw [List.foldl_cons, dfold_dl (l := l)]
    unfold dstep
    split
    · rfl
    · exact gone_dl
theorem dfold_wl {Bk : List (Nat × Nat)} {p : Nat} : ∀ {l : List ED} {st : List Int × List Nat}, (l.foldl (dstep Bk p) st).2.length ≤ st.2.length + l.length
  | [], _ => Nat.le_refl _
  | e :: l, st => by
    have h := dfold_wl (Bk := Bk) (p := p) (l := l) (st := dstep Bk p st e)
    have h2 : (dstep Bk p st e).2.length ≤ st.2.length + 1 := by
      unfold dstep
      split
      · exact Nat.le_succ _
      · exact gone_wl
    rw [List.foldl_cons, List.length_cons]
    omega
theorem dfold_m {Bk : List (Nat × Nat)} {p x : Nat} : ∀ {l : List ED} {st : List Int × List Nat}, x ∈ (l.foldl (dstep Bk p) st).2 → x ∈ st.2 ∨ ∃ e ∈ l, x = e.1.toNat
  | [], _, h => .inl h
  | e :: l, st, h => by
    rw [List.foldl_cons] at h
    rcases dfold_m h with h | ⟨e', h1, h2⟩
    · unfold dstep at h
      split at h
      · exact .inl h
      · rcases gone_m h with h | h
        · exact .inl h
        · exact .inr ⟨e, List.mem_cons_self .., h⟩
    · exact .inr ⟨e', List.mem_cons_of_mem _ h1, h2⟩
theorem l30r1v2_ok {f : FU} {Bk : List (Nat × Nat)} (hB : Bk.length ≤ 100000) {p n : Nat} {l : List ED} (he : ∀ e ∈ l, 0 ≤ e.1 ∧ e.1 < (n : Int)) {dg : List Int} (hd : dg.length = n) {w : List Nat} (hw : w.length + l.length ≤ 100000) {R : List Int} (hR : R.take w.length = lst w)
    {k1 : List Int → Nat → Nat → Nat → List Int → FU → List (Int × Int × Unit) → Prop} {k2 : List Int → FU → List (Int × Int × Unit) → List Int → Prop} {k3 : List Int → Nat → Nat → Nat → FU → List (Int × Int × Unit) → List Int → Prop}
    (h1 : ∀ R : List Int, R.take (l.foldl (dstep Bk p) (dg, w)).2.length = lst (l.foldl (dstep Bk p) (dg, w)).2 → k1 (l.foldl (dstep Bk p) (dg, w)).1 0 (l.foldl (dstep Bk p) (dg, w)).2.length R.length R f (Bk.map bt))
    (h2 : k2 (l.foldl (dstep Bk p) (dg, w)).1 f (Bk.map bt) (lst (l.foldl (dstep Bk p) (dg, w)).2))
    (h3 : ∀ R : List Int, R.take (l.foldl (dstep Bk p) (dg, w)).2.length = lst (l.foldl (dstep Bk p) (dg, w)).2 → k3 (l.foldl (dstep Bk p) (dg, w)).1 0 (l.foldl (dstep Bk p) (dg, w)).2.length R.length f (Bk.map bt) R) :
    l30r1v2 k1 k2 k3 (p : Int) l (l.length : Int) 0 dg 0 w.length R.length R f (Bk.map bt) := by
  constructor
  intro I1 I2 I3 hI1 hI2 hI3
  generalize hF : l.foldl (dstep Bk p) (dg, w) = F at h1 h2 h3
  have key := dropInd (l := l) (M := fun i r => ∀ (dg : List Int) (w : List Nat), dg.length = n → w.length + r.length ≤ 100000 → r.foldl (dstep Bk p) (dg, w) = F →
      (∀ R : List Int, R.take w.length = lst w → I1 (p : Int) l (l.length : Int) (i : Int) dg 0 w.length R.length R f (Bk.map bt)) ∧
      I2 (p : Int) l (l.length : Int) (i : Int) dg f (Bk.map bt) (lst w) ∧
      (∀ R : List Int, R.take w.length = lst w → I3 (p : Int) l (l.length : Int) (i : Int) dg 0 w.length R.length f (Bk.map bt) R))
    (fun dg w _ _ e => by
      have e : (dg, w) = _ := e
      refine ⟨fun R hR => hI1 _ _ _ _ _ _ _ _ _ _ _ (brDn (by omega) ?_), hI2 _ _ _ _ _ _ _ _ (brDn (by omega) ?_), fun R hR => hI3 _ _ _ _ _ _ _ _ _ _ _ (brDn (by omega) ?_)⟩
      · have := h1 R; rw [← e] at this; exact this hR
      · rw [← e] at h2; exact h2
      · have := h3 R; rw [← e] at this; exact this hR)
    (fun i hi ih dg w hd hw e => by
      obtain ⟨q1, q2⟩ := he _ (List.getElem_mem hi)
      rw [List.foldl_cons] at e
      rw [List.length_cons] at hw
      have hat : at? l (i : Int) = some l[i] := by rw [at?_nat]; exact List.getElem?_eq_getElem hi
      generalize l[i] = x at q1 q2 e hat
      obtain ⟨b, eb⟩ := Int.eq_ofNat_of_zero_le q1
      have hs : dstep Bk p (dg, w) x = if (p, b) ∈ Bk then (dg, w) else gone (dg, w) b := by unfold dstep; rw [eb]; rfl
      have hwr : IntKind.wrap .i64 ((i : Int) + 1) = ((i + 1 : Nat) : Int) := wrapS (n := i) (by omega)
      have same : (p, b) ∈ Bk → _ := fun q => ih dg w hd (by omega) (by rw [hs, if_pos q] at e; exact e)
      have turn : (p, b) ∉ Bk → _ := fun q => ih (gone (dg, w) b).1 (gone (dg, w) b).2 (gone_dl.trans hd) (by
        have := gone_wl (st := (dg, w)) (e := b)
        have : (gone (dg, w) b).2.length ≤ w.length + 1 := this
        omega) (by rw [hs, if_neg q] at e; exact e)
      refine ⟨fun R hR => hI1 _ _ _ _ _ _ _ _ _ _ _ (brD (by omega) (needS hat ?_)), hI2 _ _ _ _ _ _ _ _ (brD (by omega) (needS hat ?_)), fun R hR => hI3 _ _ _ _ _ _ _ _ _ _ _ (brD (by omega) (needS hat ?_))⟩
      · rw [eb, hwr]
        refine c31_ok hB (fun q => brF rfl ((same q).1 R hR)) fun q => brT rfl (c33_ok (by omega) (by omega) hR (turn q).1 (turn q).2.1)
      · rw [eb, hwr]
        refine c31_ok hB (fun q => brF rfl (same q).2.1) fun q => brT rfl (c33v2_ok (by omega) (by omega) (turn q).2.1 (turn q).2.1)
      · rw [eb, hwr]
        refine c31_ok hB (fun q => brF rfl ((same q).2.2 R hR)) fun q => brT rfl (c33_ok (by omega) (by omega) hR (turn q).2.2 (turn q).2.1))
  exact (key dg w hd hw hF).1 R hR
def kahn (f : FU) (Bk : List (Nat × Nat)) : Nat → List Int → List Nat → Int → Option Int
  | 0, _, _, _ => none
  | n + 1, dg, w, c => match w.getLast? with
    | none => some c
    | some p => kahn f Bk n ((tosAt f p).foldl (dstep Bk p) (dg, w.dropLast)).1 ((tosAt f p).foldl (dstep Bk p) (dg, w.dropLast)).2 (IntKind.wrap .i64 (c + 1))
theorem l14r14_ok {f : FU} {m : MP} (hf : FOk f m) {Bk : List (Nat × Nat)} (hB : Bk.length ≤ 100000) {L : List Int} {K : Int → List Int → Prop} {dg : List Int} (hd : dg.length = f.2.1.length) {w : List Nat} (hw : ∀ p ∈ w, p < f.2.1.length) {c' : Int} (hk : kahn f Bk 100 dg w 0 = some c') (hwl : w.length ≤ 1000) (h : K c' L) : l14r14 K 0 L dg f (Bk.map bt) (lst w) := by
  have hn := hf.le
  constructor
  intro I1 I2 hI1 hI2
  have key : ∀ (n : Nat) (dg : List Int) (w : List Nat) (c : Int), dg.length = f.2.1.length → (∀ p ∈ w, p < f.2.1.length) → w.length + 257 * n ≤ 99000 → kahn f Bk n dg w c = some c' →
      I1 c L dg f (Bk.map bt) (lst w) ∧ ∀ R : List Int, R.take w.length = lst w → I2 c L dg f (Bk.map bt) 0 w.length R.length R := by
    intro n
    induction n with
    | zero => intro _ _ _ _ _ _ e; cases e
    | succ n ih =>
      intro dg w c hd hw hwl hk
      rcases List.eq_nil_or_concat w with rfl | ⟨w, p, rfl⟩
      · have e : c = c' := Option.some.inj hk
        subst e
        exact ⟨hI1 _ _ _ _ _ _ (brDn (by simp) h), fun R hR => hI2 _ _ _ _ _ _ _ _ _ (brDn (by simp) h)⟩
      · rw [List.concat_eq_append] at hw hwl hk ⊢
        have hwpl : (w ++ [p]).length = w.length + 1 := by simp
        rw [hwpl] at hwl
        have hp := hw p (List.mem_append_right _ (List.mem_singleton_self _))
        have hb := List.getElem?_eq_getElem hp
        have hbm := List.getElem_mem hp
        have ht : tosAt f p = tos f.2.1[p] := by unfold tosAt; rw [hb]
        have htl : (tos f.2.1[p]).length ≤ 257 := hf.tl _ hbm
        have hedg : ∀ e ∈ tos f.2.1[p], 0 ≤ e.1 ∧ e.1 < (f.2.1.length : Int) := fun e he => by
          obtain ⟨q1, q2, _⟩ := hf.edg _ hbm e he
          exact ⟨by omega, q2⟩
        have hk : kahn f Bk n ((tosAt f p).foldl (dstep Bk p) (dg, w)).1 ((tosAt f p).foldl (dstep Bk p) (dg, w)).2 (IntKind.wrap .i64 (c + 1)) = some c' := by
          rw [kahn, List.getLast?_append, List.getLast?_singleton, Option.some_or, List.dropLast_concat] at hk
          exact hk
        rw [ht] at hk
        have hwl' := dfold_wl (Bk := Bk) (p := p) (l := tos f.2.1[p]) (st := (dg, w))
        have hwl' : ((tos f.2.1[p]).foldl (dstep Bk p) (dg, w)).2.length ≤ w.length + (tos f.2.1[p]).length := hwl'
        have st := ih _ _ _ (dfold_dl.trans hd) (fun x hx => by
          rcases dfold_m hx with hx | ⟨e, h1, h2⟩
          · exact hw x (List.mem_append_left _ hx)
          · have := hedg e h1; omega) (by omega) hk
        have hw1 : IntKind.wrap .i64 (((w.length + 1 : Nat) : Int) - 1) = (w.length : Int) := by rw [wrap64 (by omega) (by omega)]; omega
        refine ⟨hI1 _ _ _ _ _ _ ?_, fun R hR => hI2 _ _ _ _ _ _ _ _ _ ?_⟩
        · have hlen : (lst (w ++ [p])).length = w.length + 1 := by simp [lst]
          have hget : (lst (w ++ [p]))[w.length]? = some (p : Int) := by simp [lst]
          have htk : (lst (w ++ [p])).take w.length = lst w := by simp [lst]
          simp only [hlen, hw1, Int.sub_zero, Int.toNat_natCast]
          refine brD (by omega) (brD (by omega) (needS hget (brD (by omega) ?_)))
          constructor
          refine needS (v := f.2.1[p]) (by rw [at?_nat]; exact hb) ?_
          have := l30r1v2_ok (f := f) (p := p) (l := tos f.2.1[p]) hB hedg hd (w := w) (by omega) htk (k1 := fun z10 z11 z12 z13 z14 z15 z16 => I2 (IntKind.wrap .i64 (c + 1)) L z10 z15 z16 z11 z12 z13 z14) (k2 := fun z17 z18 z19 z20 => I1 (IntKind.wrap .i64 (c + 1)) L z17 z18 z19 z20) (k3 := fun z21 z22 z23 z24 z25 z26 z27 => I2 (IntKind.wrap .i64 (c + 1)) L z21 z25 z26 z22 z23 z24 z27) st.2 st.1 st.2
          rw [hlen] at this
          exact this
        · rw [hwpl] at hR ⊢
          have hRl : w.length + 1 ≤ R.length := by
            have := congrArg List.length hR
            rw [List.length_take] at this
            have hlen : (lst (w ++ [p])).length = w.length + 1 := by simp [lst]
            omega
          have hget : R[w.length]? = some (p : Int) := by
            have : (R.take (w.length + 1))[w.length]? = some (p : Int) := by rw [hR]; simp [lst]
            rwa [List.getElem?_take_of_lt (by omega)] at this
          have htk : R.take w.length = lst w := by
            have : (R.take (w.length + 1)).take w.length = lst w := by rw [hR]; simp [lst]
            rwa [List.take_take, Nat.min_eq_left (by omega)] at this
          simp only [hw1, Int.sub_zero, Int.toNat_natCast, Nat.zero_add]
          refine brD (by omega) (brD (by omega) (needS hget (brD (by omega) ?_)))
          constructor
          refine needS (v := f.2.1[p]) (by rw [at?_nat]; exact hb) ?_
          exact l30r1v2_ok (f := f) (p := p) (l := tos f.2.1[p]) hB hedg hd (w := w) (by omega) htk (k1 := fun z10 z11 z12 z13 z14 z15 z16 => I2 (IntKind.wrap .i64 (c + 1)) L z10 z15 z16 z11 z12 z13 z14) (k2 := fun z17 z18 z19 z20 => I1 (IntKind.wrap .i64 (c + 1)) L z17 z18 z19 z20) (k3 := fun z21 z22 z23 z24 z25 z26 z27 => I2 (IntKind.wrap .i64 (c + 1)) L z21 z25 z26 z22 z23 z24 z27) st.2 st.1 st.2
  exact (key 100 dg w 0 hd hw (by omega) hk).1
theorem c14_ok {f : FU} (hz : Szu f) (h12 : f.2.1.length ≤ 12) (he : fErr f = 0) {c' : Int}
    (hk : kahn f (bkA f (rl f)) 100 ((rl f).foldl (fun dg p => (tosAt f p).foldl (istep (bkA f (rl f)) p) dg) (List.replicate f.2.1.length 0)) [0] 0 = some c') {k : Bool → Int → Prop} (h : k (c' == ((rl f).length : Int)) 0) : c14 f k := by
  obtain ⟨m, hf, hU⟩ := fErr_ok he
  have hn := hf.le
  have hBl : (bkA f (rl f)).length ≤ 100000 := by
    have h1 := bkA_len hf (l := rl f)
    have h2 : (rl f).length ≤ f.2.1.length := sel_len
    omega
  have hrl : (rl f).length ≤ f.2.1.length := sel_len
  have h0 : 0 < f.2.1.length := hf.pos
  constructor
  refine c16_ok hz h12 (fun w => (w he).elim) fun _ => brF rfl (c17_ok hz h12 (fun w => (w he).elim) fun _ => brD (by omega) ?_)
  rw [lst_len, Int.toNat_natCast]
  have hfl : ∀ (L : List Nat) (dg : List Int), (L.foldl (fun dg p => (tosAt f p).foldl (istep (bkA f (rl f)) p) dg) dg).length = dg.length := by
    intro L
    induction L with
    | nil => intro _; rfl
    | cons p L ih => intro dg; rw [List.foldl_cons, ih, ifold_len]
  refine l14r8_ok (L := rl f) hf hBl (by omega) (fun p hp => (sel_mem.1 hp).1) (by simp) ?_
  refine l14r14_ok hf hBl (w := [0]) ((hfl _ _).trans (by simp)) (fun p hp => by rw [List.mem_singleton.1 hp]; exact h0) hk (by simp) ?_
  rw [lst_len]
  exact h
abbrev dt0 : TM := (2, 1, 0, [], [(1, [], ()), (2, [], ())], ())
abbrev dt1 : TM := (1, 0, 0, [], [(3, [], ())], ())
abbrev dt3 : TM := (2, 1, 0, [], [(3, [], ()), (4, [], ())], ())
abbrev dt4 : TM := (0, 1, 0, [], [], ())
abbrev di : IN := (1, 0, 1, [], ())
abbrev db0 : BK := ([], [di], dt0, ())
abbrev db1 : BK := ([], [], dt1, ())
abbrev db3 : BK := ([], [], dt3, ())
abbrev db4 : BK := ([], [], dt4, ())
abbrev dbl : List BK := [db0, db1, db1, db3, db4]
abbrev dia : FU := (-1, dbl, ())
theorem dia_mem {b : BK} (h : b ∈ dia.2.1) : b = db0 ∨ b = db1 ∨ b = db3 ∨ b = db4 := by
  rcases List.mem_cons.1 h with h | h
  · exact .inl h
  rcases List.mem_cons.1 h with h | h
  · exact .inr (.inl h)
  rcases List.mem_cons.1 h with h | h
  · exact .inr (.inl h)
  rcases List.mem_cons.1 h with h | h
  · exact .inr (.inr (.inl h))
  · exact .inr (.inr (.inr (List.mem_singleton.1 h)))
theorem dia_szu : Szu dia := by
  refine ⟨by decide +kernel, fun b hb => ?_, fun b hb => ?_, fun b hb => ?_, fun b hb x hx => ?_, fun b hb e he => ?_⟩
  · rcases dia_mem hb with rfl | rfl | rfl | rfl <;> decide +kernel
  · rcases dia_mem hb with rfl | rfl | rfl | rfl <;> decide +kernel
  · rcases dia_mem hb with rfl | rfl | rfl | rfl <;> decide +kernel
  · rcases dia_mem hb with rfl | rfl | rfl | rfl
    · rw [List.mem_singleton.1 hx]; decide +kernel
    · cases hx
    · cases hx
    · cases hx
  · rcases dia_mem hb with rfl | rfl | rfl | rfl
    · rcases List.mem_cons.1 he with rfl | he
      · decide +kernel
      · rw [List.mem_singleton.1 he]; decide +kernel
    · rw [List.mem_singleton.1 he]; decide +kernel
    · rcases List.mem_cons.1 he with rfl | he
      · decide +kernel
      · rw [List.mem_singleton.1 he]; decide +kernel
    · cases he
theorem di_form : formE di = 0 := by
  unfold formE
  have ha : ar di = 0 := by decide +kernel
  have h1 : ¬ Bf di := by unfold Bf; rw [ha]; decide +kernel
  have h2 : ¬ Lg di := by unfold Lg; decide +kernel
  have h3 : numP di := by unfold numP; decide +kernel
  rw [if_neg h1, if_neg h2, if_pos h3]
theorem dt_end {t : TM} (h : t = dt0 ∨ t = dt1 ∨ t = dt3 ∨ t = dt4) : endE dia t = 0 := by
  unfold endE
  have h1 : shpP t := by unfold shpP; rcases h with rfl | rfl | rfl | rfl <;> decide +kernel
  rw [if_neg (fun w => w h1)]
  rcases h with rfl | rfl | rfl | rfl
  · rw [if_neg (by decide +kernel), if_neg (by decide +kernel), if_neg (by decide +kernel)]; decide +kernel
  · rw [if_neg (by decide +kernel), if_neg (by decide +kernel), if_neg (by decide +kernel)]; decide +kernel
  · rw [if_neg (by decide +kernel), if_neg (by decide +kernel), if_neg (by decide +kernel)]; decide +kernel
  · rw [if_neg (by decide +kernel), if_neg (by decide +kernel), if_neg (by decide +kernel)]; decide +kernel
theorem blkE_nil {k : Int} {t : TM} {m : MP} (h : endE dia t = 0) : blkE dia k ([], [], t, ()) m = (0, m) := by
  rw [blkE, parE, if_neg (fun w => w rfl), insE, if_neg (fun w => w rfl), h]
theorem dia_shp : (shpE dia 0 dbl []).1 = 0 := by
  have hp : parE (((0 : Nat) : Int), 0, ()) [] [] = (0, []) := rfl
  have hi : insE ((0 : Nat) : Int) 0 [di] [] = (0, [(1, (0, 1, ()))]) := by
    rw [insE, if_neg (by decide +kernel), if_neg (fun w => w di_form), insE]
    rfl
  have hb : blkE dia ((0 : Nat) : Int) db0 [] = (0, [(1, (0, 1, ()))]) := by
    rw [blkE, if_neg (by rw [hp]; exact fun w => w rfl), hp, if_neg (by rw [hi]; exact fun w => w rfl), hi, dt_end (.inl rfl)]
  have e1 := dt_end (t := dt1) (.inr (.inl rfl))
  have e3 := dt_end (t := dt3) (.inr (.inr (.inl rfl)))
  have e4 := dt_end (t := dt4) (.inr (.inr (.inr rfl)))
  rw [shpE, if_neg (by rw [hb]; exact fun w => w rfl), hb, shpE, blkE_nil e1, if_neg (fun w => w rfl), shpE, blkE_nil e1, if_neg (fun w => w rfl), shpE, blkE_nil e3, if_neg (fun w => w rfl), shpE, blkE_nil e4, if_neg (fun w => w rfl), shpE]
theorem dia_df : Df dia 1 0 1 := ⟨_, rfl, .inr ⟨0, _, rfl, rfl, rfl⟩⟩
theorem dia_all : AllU dia := by
  intro k b hb
  have nar : ∀ (j : Nat) (x : IN), b.2.1[j]? = some x → x.2.2.2.1 = [] := fun j x hx => by
    rcases dia_mem (List.mem_of_getElem? hb) with rfl | rfl | rfl | rfl
    · rw [List.mem_singleton.1 (List.mem_of_getElem? hx)]
    · cases hx
    · cases hx
    · cases hx
  refine ⟨fun j x hj v hv => (by rw [nar j x hj] at hv; cases hv), fun v hv => ?_⟩
  match k with
  | 0 =>
    obtain rfl := Option.some.inj hb
    have : v = 1 := by simpa [opr] using hv
    subst this
    exact ⟨0, 1, dia_df, .inr (.inl ⟨rfl, Nat.le_refl _⟩)⟩
  | 1 => obtain rfl := Option.some.inj hb; simp [opr] at hv
  | 2 => obtain rfl := Option.some.inj hb; simp [opr] at hv
  | 3 =>
    obtain rfl := Option.some.inj hb
    have : v = 1 := by simpa [opr] using hv
    subst this
    exact ⟨0, 1, dia_df, .inr (.inr ⟨by decide, fun w => w.no⟩)⟩
  | 4 =>
    obtain rfl := Option.some.inj hb
    have : v = 1 := by simpa [opr] using hv
    subst this
    exact ⟨0, 1, dia_df, .inr (.inr ⟨by decide, fun w => w.no⟩)⟩
  | k + 5 => cases hb
theorem dia_err : fErr dia = 0 := by
  unfold fErr
  rw [if_neg (by decide +kernel), if_neg (by decide +kernel), if_neg (by decide +kernel), if_neg (by decide +kernel), if_neg (by decide +kernel), if_neg (fun w => w dia_shp), if_pos dia_all]
theorem eg01 : Eg dia 0 1 := ⟨_, rfl, (1, [], ()), by simp [tos], rfl⟩
theorem eg02 : Eg dia 0 2 := ⟨_, rfl, (2, [], ()), by simp [tos], rfl⟩
theorem eg13 : Eg dia 1 3 := ⟨_, rfl, (3, [], ()), by simp [tos], rfl⟩
theorem eg34 : Eg dia 3 4 := ⟨_, rfl, (4, [], ()), by simp [tos], rfl⟩
theorem eg23 : Eg dia 2 3 := ⟨_, rfl, (3, [], ()), by simp [tos], rfl⟩
theorem rc1 {w : Int} (h0 : w ≠ 0) (h1 : w ≠ 1) : Rc dia w 1 := .s (.z h0) eg01 (fun e => h1 e.symm)
theorem rc2 {w : Int} (h0 : w ≠ 0) (h1 : w ≠ 2) : Rc dia w 2 := .s (.z h0) eg02 (fun e => h1 e.symm)
theorem rc3 {w : Int} (h0 : w ≠ 0) (h1 : w ≠ 1) (h3 : w ≠ 3) : Rc dia w 3 := .s (rc1 h0 h1) eg13 (fun e => h3 e.symm)
theorem rc4 {w : Int} (h0 : w ≠ 0) (h1 : w ≠ 1) (h3 : w ≠ 3) (h4 : w ≠ 4) : Rc dia w 4 := .s (rc3 h0 h1 h3) eg34 (fun e => h4 e.symm)
theorem sel5 {Q : Nat → Prop} (h0 : Q 0) (h1 : Q 1) (h2 : Q 2) (h3 : Q 3) (h4 : Q 4) : sel 5 Q = [0, 1, 2, 3, 4] := by
  rw [sel_s h4, sel_s h3, sel_s h2, sel_s h1, sel_s h0]
  rfl
theorem sel5_3 {Q : Nat → Prop} (h0 : ¬ Q 0) (h1 : ¬ Q 1) (h2 : ¬ Q 2) (h3 : Q 3) (h4 : ¬ Q 4) : sel 5 Q = [3] := by
  rw [sel_n h4, sel_s h3, sel_n h2, sel_n h1, sel_n h0]
  rfl
theorem dia_rl : rl dia = [0, 1, 2, 3, 4] := sel5 (.z (by decide)) (rc1 (by decide) (by decide)) (rc2 (by decide) (by decide)) (rc3 (by decide) (by decide) (by decide)) (rc4 (by decide) (by decide) (by decide) (by decide))
theorem dia_bk : bkA dia (rl dia) = [(3, 3)] := by
  have n10 : ¬ Dom dia 1 0 := fun w => w (.z (by decide))
  have n20 : ¬ Dom dia 2 0 := fun w => w (.z (by decide))
  have n31 : ¬ Dom dia 3 1 := fun w => w (rc1 (by decide) (by decide))
  have n32 : ¬ Dom dia 3 2 := fun w => w (rc2 (by decide) (by decide))
  have n43 : ¬ Dom dia 4 3 := fun w => w (rc3 (by decide) (by decide) (by decide))
  have b0 : bk1 dia 0 (tosAt dia 0) = [] := by
    show bk1 dia 0 [(1, [], ()), (2, [], ())] = []
    rw [bk1_n n10, bk1_n n20]; rfl
  have b1 : bk1 dia 1 (tosAt dia 1) = [] := by
    show bk1 dia 1 [(3, [], ())] = []
    rw [bk1_n n31]; rfl
  have b2 : bk1 dia 2 (tosAt dia 2) = [] := by
    show bk1 dia 2 [(3, [], ())] = []
    rw [bk1_n n32]; rfl
  have b3 : bk1 dia 3 (tosAt dia 3) = [(3, 3)] := by
    show bk1 dia 3 [(3, [], ()), (4, [], ())] = _
    rw [bk1_y (show Dom dia 3 3 from dom_refl), bk1_n n43]; rfl
  have b4 : bk1 dia 4 (tosAt dia 4) = [] := rfl
  rw [dia_rl]
  show bk1 dia 0 (tosAt dia 0) ++ (bk1 dia 1 (tosAt dia 1) ++ (bk1 dia 2 (tosAt dia 2) ++ (bk1 dia 3 (tosAt dia 3) ++ (bk1 dia 4 (tosAt dia 4) ++ [])))) = _
  rw [b0, b1, b2, b3, b4]; rfl
theorem dia_back {m : MP} (hf : FOk dia m) {p h : Nat} (h1 : Rc dia (-1) p) (h2 : Eg dia p h) (h3 : Dom dia h p) : p = 3 ∧ h = 3 := by
  have := (bkA_mem hf).2 ⟨h1, h2, h3⟩
  rw [dia_bk, List.mem_singleton] at this
  exact ⟨congrArg Prod.fst this, congrArg Prod.snd this⟩
theorem dia_lp {m : MP} (hf : FOk dia m) {k : Nat} (w : Lp dia 3 k) : False := by
  induction w with
  | b h1 h2 h3 h4 => exact h4 (dia_back hf h1 h2 h3).1
  | s _ _ _ _ ih => exact ih
theorem dia_hbs {m : MP} (hf : FOk dia m) : hbs dia = [(3, [3])] := by
  have no : ∀ h, h ≠ 3 → ¬ IsHd dia h := fun h n ⟨_, p, h1, h2, h3⟩ => n (dia_back hf h1 h2 h3).2
  have is : IsHd dia 3 := by
    obtain ⟨h1, h2, h3⟩ := (bkA_mem (p := 3) (h := 3) hf).1 (by rw [dia_bk]; exact List.mem_singleton_self _)
    exact ⟨h1, 3, h1, h2, h3⟩
  have hh : hds dia = [3] := sel5_3 (no _ (by decide)) (no _ (by decide)) (no _ (by decide)) is (no _ (by decide))
  have nb : ∀ k, k ≠ 3 → ¬ (k = 3 ∨ Lp dia 3 k) := fun k n w => by
    rcases w with w | w
    · exact n w
    · exact dia_lp hf w
  have hb3 : bl dia 3 = [3] := sel5_3 (nb _ (by decide)) (nb _ (by decide)) (nb _ (by decide)) (.inl rfl) (nb _ (by decide))
  unfold hbs
  rw [hh]
  show [hb dia 3] = _
  unfold hb
  rw [hb3]
theorem c4_ok {k : Bool → Prop} (h : k true) : c4 k := by
  obtain ⟨m, hf, hU⟩ := fErr_ok dia_err
  have hls : LS (hbs dia) (par (hbs dia)) = [((3 : Int), [(3 : Int)], (-1 : Int), ())] := by rw [dia_hbs hf]; rfl
  constructor
  constructor
  refine brD (by decide) (needS (v := ([], [], ((0 : Int), (1 : Int), (0 : Int), [], [], ()), ())) rfl (brT (by decide +kernel) ?_))
  refine c6_ok (f := dia) dia_szu (by decide) (fun e => (e dia_err).elim) fun _ => ?_
  refine c14_ok (f := dia) dia_szu (by decide) dia_err (c' := 5) (by rw [dia_bk, dia_rl]; decide +kernel) ?_
  rw [hls, dia_rl]
  exact brT rfl (brT rfl (brD (by decide) (needS rfl (brT rfl (brD (by decide) (needS rfl (brT rfl (brD (by decide) (needS rfl (c11_ok (by decide) rfl (brT rfl (brT rfl h))))))))))))
abbrev edT : Ty := .pair (.int .i64) (.pair (.sl (.int .i64)) .unit)
abbrev tmT : Ty := .pair (.int .i64) (.pair (.int .i64) (.pair (.int .i64) (.pair (.sl (.int .i64)) (.pair (.sl edT) .unit))))
abbrev inT : Ty := .pair (.int .i64) (.pair (.int .i64) (.pair (.int .i64) (.pair (.sl (.int .i64)) .unit)))
abbrev bkT : Ty := .pair (.sl (.int .i64)) (.pair (.sl inT) (.pair tmT .unit))
abbrev fuT : Ty := .pair (.int .i64) (.pair (.sl bkT) .unit)
theorem szu_of {f : FU} (g : Go.Abs.Good fuT f) : Szu f := by
  obtain ⟨_, ⟨g1, g2⟩, _⟩ := g
  refine ⟨g1, fun b hb => ?_, fun b hb => ?_, fun b hb => ?_, fun b hb x hx => ?_, fun b hb e he => ?_⟩
  · obtain ⟨⟨h, _⟩, _⟩ := g2 b hb
    exact h
  · obtain ⟨_, ⟨h, _⟩, _⟩ := g2 b hb
    exact h
  · obtain ⟨_, _, ⟨_, _, _, _, ⟨h, _⟩, _⟩, _⟩ := g2 b hb
    exact h
  · obtain ⟨_, ⟨_, h⟩, _⟩ := g2 b hb
    obtain ⟨_, _, _, ⟨h2, _⟩, _⟩ := h x hx
    exact h2
  · obtain ⟨_, _, ⟨_, _, _, _, ⟨_, h⟩, _⟩, _⟩ := g2 b hb
    obtain ⟨_, ⟨h2, _⟩, _⟩ := h e he
    exact h2
theorem law3 {f : FU} (g : Go.Abs.Good fuT f ∧ Go.Abs.Sz fuT f) {k : Bool → Prop} (hk : k true) : c3 f k := law3' (szu_of g.1) c4_ok hk
end Go.Proofs.Yteeigkbjjoedoac
