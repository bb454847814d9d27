/- The law's 'texts': whether two lists of strings are equal. -/
import Derived.Test.YtholmlkjcobkdaaGreatIsLoop
import Derived.Deep.QuietTactic
import Derived.BigQuiet
namespace Go.Proofs.YtholmlkjcobkdaaGreat
set_option linter.all false
set_option linter.unusedSimpArgs false
set_option linter.unusedVariables false
open Go.RowKit
set_option maxRecDepth 100000

theorem Ext.drewN {a b : World} (h : Ext a b) (n : Nat) : Ext a (b.drewN n) := ⟨h.os, h.tape, h.output, h.size, h.block⟩

set_option maxHeartbeats 1000000 in
theorem texts_eq (a b : List Str) (va vb : Value) (w : World) (hn : a.length ≤ 1000000) (hb : b.length ≤ 1000000) (ha : IsSs w va a) (hbb : IsSs w vb b) :
    Calls Tryz.prog 53 #[va, vb] w fun e w' => e = .returned (.bool (decide (a = b))) ∧ Ext w w' := by
  obtain ⟨p, cp, rfl, hcp, hca⟩ := ha
  obtain ⟨q, cq, rfl, hcq, hcb⟩ := hbb
  have HA := Lib.hid hca
  have HB := Lib.hid hcb
  clear hca hcb
  by_cases hl : a.length = b.length
  rotate_left
  · have g1 : ((a.length : Int) != (b.length : Int)) = true := by simp; omega
    have HL := Lib.hid hl
    clear hl
    go_enter Tryz.func53, Tryz.ntmps53
    go_wp2_with fail
    go_ret
    exact ⟨by rw [decide_eq_false (fun h => HL.out (by rw [h]))]; rfl, Ext.refl _⟩
  have g1 : ((a.length : Int) != (b.length : Int)) = false := by simp [hl]
  have HL := Lib.hid hl
  clear hl
  go_enter Tryz.func53, Tryz.ntmps53
  go_wp2_with fail
  go_loopg [5] a.length (fun k i wr => ∃ d, d + k = a.length ∧ i = .int .i64 d ∧ Ext w wr ∧ a.take d = b.take d)
  case atStart => exact ⟨0, by simp, rfl, Ext.refl _, by simp⟩
  case round =>
    obtain ⟨d, hd, rfl, hE, htk⟩ := hrel
    have HE := Lib.hid hE
    have HTk := Lib.hid htk
    clear hE htk
    cases gk with
    | zero =>
      obtain rfl : d = a.length := by omega
      go_wp2_with fail
      go_ret
      have h : a = b := by have h := HTk.out; rwa [List.take_length, HL.out, List.take_length] at h
      exact ⟨by rw [decide_eq_true h]; rfl, HE.out⟩
    | succ k =>
      have hdl : d < a.length := by omega
      have hdl' : (d : Int) < (a.length : Int) := by omega
      have hdb : d < b.length := by have := HL.out; omega
      have hdb' : (d : Int) < (b.length : Int) := by omega
      have hd2 : (d : Int) + 1 ≤ 1000001 := by omega
      obtain ⟨x, hx⟩ : ∃ u, a[d]? = some u := ⟨_, List.getElem?_eq_getElem hdl⟩
      obtain ⟨y, hy⟩ : ∃ u, b[d]? = some u := ⟨_, List.getElem?_eq_getElem hdb⟩
      obtain ⟨a1, o1, rfl, hc1⟩ := HA.out d x hx
      obtain ⟨a2, o2, rfl, hc2⟩ := HB.out d y hy
      have e1 := HE.out.cell hc1
      have e2 := HE.out.cell hc2
      unfold encS at e1 e2
      have HX := Lib.hid hx
      have HY := Lib.hid hy
      clear hc1 hc2 hx hy
      by_cases hxy : x = y
      · subst hxy
        go_wp2_with fail
        go_quiet (fail)
        go_wp2_with fail
        go_roundg k
        case measure => omega
        case rel => exact ⟨d + 1, by omega, congrArg (Value.int .i64) (by omega), HE.out.drewN _, by rw [List.take_add_one, List.take_add_one, HX.out, HY.out, HTk.out]⟩
      · have HXy := Lib.hid hxy
        go_wp2_with fail
        go_quiet (fail)
        have hb0 : (x == y) = false := by rw [beq_eq_false_iff_ne]; exact hxy
        rw [hb0, Bool.not_false]
        clear hb0 hxy
        go_wp2_with fail
        go_ret
        refine ⟨?_, HE.out.drewN _⟩
        rw [decide_eq_false (fun h => HXy.out (by have h1 := HX.out; rw [h, HY.out] at h1; exact (Option.some.inj h1).symm))]; rfl

end Go.Proofs.YtholmlkjcobkdaaGreat
