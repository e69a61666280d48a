/- A part of the proof. -/
import Derived.Test.YtfdoaacapkopmaaAP6
set_option linter.unusedSimpArgs false
namespace Go.Proofs.Ytfdoaacapkopmaa
open Go.Abs
theorem c84_ok {x : O} {k : List Int → Prop} (h0 : 0 ≤ x.1 ∧ x.1 ≤ 24) (h : k (rd x)) : c84 x k := by
  obtain ⟨o, d, a, b, n, u⟩ := x
  constructor
  unfold tc84
  refine brP (fun h' => absurd h0.1 (by dsimp only at *; omega)) (fun _ => ?_)
  refine brP (fun h' => by dsimp only at *; omega) (fun _ => ?_)
  refine brP (fun _ => ?_) (fun h' => by dsimp only at *; omega)
  rcases ops h0 with e | e | e | e | e | e | e | e | e | e | e | e | e | e | e | e | e | e | e | e | e | e | e | e | e <;>
    (dsimp only at e; subst e; refine needS (v := _) rfl ?_; refine c84_loop (g := letter (_, d, a, b, n, u)) (by simp) (fun c _ => letter_ok _ c) ?_; simpa [letter, rd, br] using h)


end Go.Proofs.Ytfdoaacapkopmaa
