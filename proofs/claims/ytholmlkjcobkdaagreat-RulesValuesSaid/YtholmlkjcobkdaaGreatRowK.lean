/- The rows' own lemmas: what an argument holds as it is read. -/
import Derived.Test.YtholmlkjcobkdaaGreatRows
import Derived.Test.YtholmlkjcobkdaaGreatLNum
import Derived.ProofKit
import Derived.SizedLaws
import Derived.Deep.Matrix
namespace Go.Proofs.YtholmlkjcobkdaaGreat
set_option linter.all false
set_option linter.unusedSimpArgs false
set_option linter.unusedVariables false
open Go.ChangeShapes Go.WideShapes Go.ChangeAt Go.RowKit Go.Deep
set_option maxRecDepth 100000

theorem Tryz.own : ownKnob Tryz.prog.godebug = none := by kernel_rfl
theorem Tryz.laidOut : laidOutB Tryz.prog = true := by kernel_rfl
theorem cells_ints : Tryz.prog.cellsOf 43 = 1 := by kernel_rfl
theorem cells_int : Tryz.prog.cellsOf 3 = 1 := by kernel_rfl

/-- A list of lists of numbers, as it is read, is one as the walk wants it. -/
theorem argRd {H : Type} {enc : TypeId × Value → H} {W : World} {v : Value} {d : DataW H} {p : List MemPlace} {r : Reach} {b0 : Nat} (hv : Value.okWide Tryz.prog W r b0 22 v)
    (h : DataW.Trod enc Tryz.prog W 0 (fun _ => true) true 22 v d p) : ∃ rd, ArgRd W v rd := by
  obtain ⟨a0, len, cap, rfl⟩ := okWide_slice Tryz.underlying22 hv
  obtain ⟨fuel, hf⟩ := h
  rcases open_int_rows Tryz.underlying22 Tryz.underlying43 Tryz.underlying3 cells_ints cells_int hf with ⟨hcs, -⟩ | ⟨a, len', cap', A, L, C, Z, hcs, -, hl, hm, -, hrows⟩
  · simp [Value.cells] at hcs
    obtain ⟨rfl, rfl, rfl⟩ := hcs
    exact ⟨[], none, 0, rfl, Nat.le_refl _, by simp, fun j r hj => by simp at hj⟩
  · simp [Value.cells] at hcs
    obtain ⟨rfl, rfl, rfl⟩ := hcs
    have hmx : maxLen = 9223372036854775807 := rfl
    refine ⟨(List.range len).map fun r => (Z r).take (L r), some a, cap, by simp, by simpa using hl, by simp; omega, ?_⟩
    intro j r hj
    rw [List.getElem?_map] at hj
    have hj2 : j < len := by
      by_cases h : j < len
      · exact h
      · rw [List.getElem?_eq_none (by simp; omega)] at hj; cases hj
    rw [List.getElem?_range hj2] at hj
    cases hj
    obtain ⟨h1, h2, h3, h4, -, h6, h7⟩ := hrows j (by omega)
    obtain ⟨b, off, spot⟩ := a
    have hspot : spot = none := by simpa [Addr.add] using World.cell?_spot (hrows 0 (by omega)).1
    subst hspot
    have hlen : ((Z j).take (L j)).length = L j := by rw [List.length_take]; omega
    refine ⟨b, off, A j, C j, rfl, ?_, by rw [hlen]; exact h2, by omega, h6, ?_⟩
    · rw [hlen, ← add_plain]; exact h1
    · intro i n hi
      have hi2 : i < L j := by
        by_cases h : i < L j
        · exact h
        · rw [List.getElem?_eq_none (by rw [hlen]; omega)] at hi; cases hi
      rw [List.getElem?_take, if_pos hi2] at hi
      cases hA : A j with
      | none => have := h6 hA; omega
      | some a' =>
        obtain ⟨-, hc⟩ := h7 a' hA
        obtain ⟨b', o', sp'⟩ := a'
        have hs : sp' = none := by simpa [Addr.add] using World.cell?_spot (hc 0 (by omega))
        subst hs
        refine ⟨b', o', rfl, ?_⟩
        have := hc i (by omega)
        rw [add_plain] at this
        rw [this, List.getD_eq_getElem?_getD, hi]; rfl

theorem argS {H : Type} {enc : TypeId × Value → H} {W : World} {v : Value} {d : DataW H} {p : List MemPlace} {r : Reach} {b0 : Nat} (hv : Value.okWide Tryz.prog W r b0 9 v)
    (h : DataW.Trod enc Tryz.prog W 0 (fun _ => true) true 9 v d p) : ∃ s : Str, v = encS s ∧ s.length ≤ 9223372036854775807 := by
  obtain ⟨s, rfl, rfl, rfl, hs⟩ := Go.ChangeMaps.open_string Tryz.underlying9 hv h
  refine ⟨s.data.toList, ?_, ?_⟩
  · unfold encS; simp
  · have hmx : maxLen = 9223372036854775807 := rfl
    have : s.data.toList.length = s.size := by rfl
    omega

end Go.Proofs.YtholmlkjcobkdaaGreat
