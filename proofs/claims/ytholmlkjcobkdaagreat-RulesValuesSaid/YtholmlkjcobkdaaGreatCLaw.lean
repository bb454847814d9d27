/- slices.ContainsFunc over rules, by any predicate that keeps a condition on the world. -/
import Derived.Test.YtholmlkjcobkdaaGreatCmp
namespace Go.Proofs.YtholmlkjcobkdaaGreat
set_option linter.all false
set_option linter.unusedSimpArgs false
set_option linter.unusedVariables false
open Go.RowKit
set_option maxRecDepth 100000

/-- A predicate on rules, as the program's functions take it. -/
def LawPred (J : World → Prop) (g : FuncId) (caps : Array Value) (f : Tm × Tm → Bool) (ls : List (Tm × Tm)) : Prop :=
  ∀ l ∈ ls, ∀ (T U : TypeId) (x y : Value) (W : World), J W → IsT Any W l.1 (.iface T x) → IsT Any W l.2 (.iface U y) → Calls Tryz.prog g (#[.agg #[.iface T x, .iface U y]] ++ caps) W fun e W' => e = .returned (.bool (f l)) ∧ J W'

/-- What looking for a rule comes to. -/
def Finds (J : World → Prop) (f : Tm × Tm → Bool) (ls : List (Tm × Tm)) (e : Ending) (W' : World) : Prop :=
  ∃ n : Int, e = .returned (.int .i64 n) ∧ (ls.any f = true ∧ 0 ≤ n ∨ ls.any f = false ∧ n = -1) ∧ J W'

set_option maxHeartbeats 1000000 in
theorem indexLaw_any (J : World → Prop) (g : FuncId) (caps : Array Value) (f : Tm × Tm → Bool) (ls : List (Tm × Tm)) (v : Value) (w : World) (hn : ls.length ≤ 1000) (hg : ∀ xs W, (callFunc g xs).run Tryz.prog W = .ok (.enter g xs) W)
    (hJ : ∀ W, J W → IsLaws Any W v ls) (h0 : J w) (hp : LawPred J g caps f ls) :
    Calls Tryz.prog 147 #[v, .func (.func g) #[] caps] w (Finds J f ls) := by
  obtain ⟨p, c, rfl⟩ := (hJ w h0).slice
  have HJ := Lib.hid hJ
  have H0 := Lib.hid h0
  have HP := Lib.hid hp
  clear hJ h0 hp
  go_enter Tryz.func147, Tryz.ntmps147
  go_wp2_with fail
  go_loopg [8] ls.length (fun k i wr => ∃ d, d + k = ls.length ∧ i = .int .i64 d ∧ J wr ∧ (ls.take d).any f = false)
  case atStart => exact ⟨0, by simp, rfl, H0.out, by simp⟩
  case round =>
    obtain ⟨d, hd, rfl, hj, hno⟩ := hrel
    have HJr := Lib.hid hj
    have HNo := Lib.hid hno
    clear hj hno
    cases gk with
    | zero =>
      obtain rfl : d = ls.length := by omega
      go_wp2_with fail
      go_ret
      have h := HNo.out
      rw [List.take_length] at h
      exact ⟨-1, rfl, .inr ⟨h, rfl⟩, HJr.out⟩
    | succ k =>
      have hdl : d < ls.length := by omega
      have hdl' : (d : Int) < (ls.length : Int) := by omega
      have hd2 : (d : Int) + 1 ≤ 1001 := by omega
      obtain ⟨⟨l, r⟩, hlr⟩ : ∃ q, ls[d]? = some q := ⟨_, List.getElem?_eq_getElem hdl⟩
      obtain ⟨a, o, cap, y, z, hv, hcap, hc0, hc1, hy, hz⟩ := (HJ.out _ HJr.out).get hlr
      cases hv
      obtain ⟨U, y, rfl⟩ := hy.iface
      obtain ⟨V, z, rfl⟩ := hz.iface
      have HC := Lib.hid (HP.out (l, r) (List.mem_of_getElem? hlr) U V y z wr HJr.out hy hz)
      have HLR := Lib.hid hlr
      clear hlr hy hz
      cases hf : f (l, r) with
      | true =>
        rw [hf] at HC
        have HF := Lib.hid hf
        clear hf
        go_wp2_with fail
        refine HC.out.mono ?_
        rintro e w1 ⟨rfl, hj1⟩
        have HJ1 := Lib.hid hj1
        clear hj1 HC
        go_wp2_with fail
        go_ret
        exact ⟨d, rfl, .inl ⟨List.any_eq_true.2 ⟨_, List.mem_of_getElem? HLR.out, HF.out⟩, by omega⟩, HJ1.out⟩
      | false =>
        rw [hf] at HC
        have HF := Lib.hid hf
        clear hf
        go_wp2_with fail
        refine HC.out.mono ?_
        rintro e w1 ⟨rfl, hj1⟩
        have HJ1 := Lib.hid hj1
        clear hj1 HC
        go_wp2_with fail
        go_roundg k
        case measure => omega
        case rel =>
          refine ⟨d + 1, by omega, congrArg (Value.int .i64) (by omega), HJ1.out, ?_⟩
          rw [List.take_add_one, HLR.out, List.any_append, HNo.out]
          simp [HF.out]

theorem containsLaw_any (J : World → Prop) (g : FuncId) (caps : Array Value) (f : Tm × Tm → Bool) (ls : List (Tm × Tm)) (v : Value) (w : World) (hn : ls.length ≤ 1000) (hg : ∀ xs W, (callFunc g xs).run Tryz.prog W = .ok (.enter g xs) W)
    (hJ : ∀ W, J W → IsLaws Any W v ls) (h0 : J w) (hp : LawPred J g caps f ls) :
    Calls Tryz.prog 127 #[v, .func (.func g) #[] caps] w fun e w' => e = .returned (.bool (ls.any f)) ∧ J w' := by
  have HC := Lib.hid (indexLaw_any J g caps f ls v w hn hg hJ h0 hp)
  obtain ⟨p, c, rfl⟩ := (hJ w h0).slice
  clear hJ h0 hp
  go_enter Tryz.func127, Tryz.ntmps127
  go_wp2_with fail
  refine HC.out.mono ?_
  rintro e w1 ⟨n, rfl, hh, hj⟩
  have HJ := Lib.hid hj
  clear HC hj
  rcases hh with ⟨ha, hn0⟩ | ⟨ha, rfl⟩
  · have HA := Lib.hid ha
    clear ha
    go_wp2_with fail
    go_ret
    exact ⟨by rw [HA.out]; simp [hn0], HJ.out⟩
  · have HA := Lib.hid ha
    clear ha
    go_wp2_with fail
    go_ret
    exact ⟨by rw [HA.out]; rfl, HJ.out⟩

end Go.Proofs.YtholmlkjcobkdaaGreat
