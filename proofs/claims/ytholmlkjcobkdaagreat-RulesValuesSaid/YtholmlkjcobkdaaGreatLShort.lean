/- The law's 'short' and 'numbers'. -/
import Derived.Test.YtholmlkjcobkdaaGreatNum
namespace Go.Proofs.YtholmlkjcobkdaaGreat
set_option linter.all false
set_option linter.unusedSimpArgs false
set_option linter.unusedVariables false
open Go.RowKit
set_option maxRecDepth 100000

theorem short_any (s : Str) (w : World) (hs : s.length ≤ 9223372036854775807) : Calls Tryz.prog 21 #[encS s] w fun e w' => e = .returned (encS (s.take 400)) ∧ w = w' := by
  have hx : ∀ k : Nat, (⟨s.toArray⟩ : ByteArray).extract 0 k = ⟨(s.take k).toArray⟩ := fun k => by ext1; simp
  unfold encS at *
  go_enter Tryz.func21, Tryz.ntmps21
  go_wp2_with fail
  go_ret
  refine ⟨?_, rfl⟩
  have h : s.take (min (s.length : Int) 400).toNat = s.take 400 := by
    by_cases hl : s.length ≤ 400
    · rw [List.take_of_length_le hl, List.take_of_length_le (by omega)]
    · congr 1; omega
  rw [← h]; rfl

end Go.Proofs.YtholmlkjcobkdaaGreat
