/- What 'demand' reports, and what 'guard' makes of it. -/
import Derived.Test.YtholmlkjcobkdaaGreatBase
import Derived.Defers
import Derived.Recover
import Derived.Laws.Pointers
import Derived.Maps.AppendAt
namespace Go.Proofs.YtholmlkjcobkdaaGreat
set_option linter.all false
set_option linter.unusedSimpArgs false
set_option linter.unusedVariables false
open Go.RowKit
set_option maxRecDepth 100000

/-- The panic that reports the error n. -/
def tr (n : Int) : List PanicEntry := [{ v := .iface 156 (.agg #[.int .i64 n]), recovered := false }]

theorem trn_inj {n m : Int} (h : Ending.panicked (tr m) = Ending.panicked (tr n)) : n = m := by
  simp [tr] at h; exact h.symm

theorem within_any (n lo hi : Int) (w : World) : Calls Tryz.prog 101 #[.int .i64 n, .int .i64 lo, .int .i64 hi] w fun e w' => e = .returned (.bool (decide (lo ≤ n) && decide (n ≤ hi))) ∧ w = w' := by
  by_cases h1 : lo ≤ n <;> by_cases h2 : n ≤ hi
  all_goals
    go_enter Tryz.func101, Tryz.ntmps101
    go_wp2
    go_ret
    exact ⟨by simp [h1, h2], rfl⟩

theorem demand_yes (e : Value) (w : World) : Calls Tryz.prog 67 #[.bool true, e] w fun e w' => e = .returned (.tuple #[]) ∧ w = w' := by
  go_enter Tryz.func67, Tryz.ntmps67
  go_wp2
  go_end0
  exact ⟨rfl, rfl⟩

theorem demand_no (n : Int) (w : World) : Calls Tryz.prog 67 #[.bool false, .int .i64 n] w fun e w' => e = .panicked (tr n) ∧ w = w' := by
  go_enter Tryz.func67, Tryz.ntmps67
  go_wp2
  exact ⟨rfl, rfl, rfl⟩

/-- What 'demand' does, whatever it is asked. -/
def Demands (b : Bool) (n : Int) (w : World) (e : Ending) (w' : World) : Prop := e = (if b then .returned (.tuple #[]) else .panicked (tr n)) ∧ w = w'

theorem demand_any (b : Bool) (n : Int) (w : World) : Calls Tryz.prog 67 #[.bool b, .int .i64 n] w (Demands b n w) := by
  cases b with
  | true => exact (demand_yes _ w).mono fun e w' h => ⟨by simpa using h.1, h.2⟩
  | false => exact (demand_no n w).mono fun e w' h => ⟨by simpa using h.1, h.2⟩

theorem catch_idle (p : Addr) (w : World) :
    CallsD Tryz.prog 116 #[.pointer (some p)] .returning w fun e u' w' => e = .returned (.tuple #[]) ∧ u' = .returning ∧ w' = w := by
  refine callsD_of_wpS Tryz.func116 rfl fun c₀ cs hu => ?_
  apply wpS_seq
  apply wpS_region
  simp [wpOpsS, go_sem, recoverD, hu, Tryz.ntmps116, Exit.thenS]
  refine wpS_of_wp ?_
  simp only [List.size_toArray, List.length_cons, List.length_nil, Array.replicate_succ, Array.replicate_zero, List.push_toArray, List.append_toArray, List.nil_append, List.cons_append, List.setIfInBounds_toArray, List.set_cons_succ, List.set_cons_zero]
  go_wp2
  cases c₀
  simp_all [bodyPostS, results, Tryz.results116]

theorem assert_trouble (n : Int) (w : World) : (Instr.typeAssert (.iface 156 (.agg #[.int .i64 n])) 20 156 true).run Tryz.prog w = .ok (.tuple #[.agg #[.int .i64 n], .bool true]) w := by kernel_rfl

theorem catch_trouble (p : Addr) (x n : Int) (older : List PanicEntry) (w : World) (hp : p.block < w.heap.size) (hc : w.cell? p = some (.int .i64 x)) (hz : w.frozen? p = false) :
    CallsD Tryz.prog 116 #[.pointer (some p)] (.panicking ({ v := .iface 156 (.agg #[.int .i64 n]), recovered := false } :: older)) w fun e u' w' =>
      e = .returned (.tuple #[]) ∧ u' = .panicking ({ v := .iface 156 (.agg #[.int .i64 n]), recovered := true } :: older) ∧ w' = (w.setCell p (.int .i64 n)).alloc (.cells #[.int .i64 n] 156) := by
  refine callsD_of_wpS Tryz.func116 rfl fun c₀ cs hu => ?_
  apply wpS_seq
  apply wpS_region
  simp [wpOpsS, go_sem, recoverD, hu, Tryz.ntmps116, Exit.thenS]
  refine wpS_of_wp ?_
  simp only [List.size_toArray, List.length_cons, List.length_nil, Array.replicate_succ, Array.replicate_zero, List.push_toArray, List.append_toArray, List.nil_append, List.cons_append, List.setIfInBounds_toArray, List.set_cons_succ, List.set_cons_zero]
  have hta := assert_trouble n
  obtain ⟨b, o, sp⟩ := p
  obtain rfl : sp = none := World.cell?_spot hc
  go_wp2
  simp [bodyPostS, results, Tryz.results116]

/-- 'guard' hands back what the function's trouble says, or 0. -/
def Guards (w : World) (R : Ending → World → Prop) (e : Ending) (w' : World) : Prop :=
  ∃ e1 w1 n, R e1 w1 ∧ w1.grownBy w' (some w.heap.size) ∧ e = .returned (.int .i64 n) ∧ (e1 = .returned (.tuple #[]) ∧ n = 0 ∨ e1 = .panicked (tr n))

theorem guard_any (g : FuncId) (caps : Array Value) (hg : ∀ xs W, (callFunc g xs).run Tryz.prog W = .ok (.enter g xs) W) (w : World) (R : Ending → World → Prop)
    (hf : Calls Tryz.prog g caps (w.alloc (.cells #[.int .i64 0] 26)) R)
    (hR : ∀ e w1, R e w1 → w.heap.size < w1.heap.size ∧ w1.cell? ⟨w.heap.size, 0, none⟩ = some (.int .i64 0) ∧ w1.frozen? ⟨w.heap.size, 0, none⟩ = false ∧ (e = .returned (.tuple #[]) ∨ ∃ n, e = .panicked (tr n))) :
    Calls Tryz.prog 65 #[.func (.func g) #[] caps] w (Guards w R) := by
  have hmf : ∀ (fn : Fn) (first cap : Array Value) (w : World), (Instr.makeFunc fn first cap).run Tryz.prog w = .ok (.func fn first cap) w := fun _ _ _ _ => rfl
  have HR := Lib.hid hR
  have HF := Lib.hid hf
  clear hR hf
  go_enter_defers Tryz.func65, Tryz.ntmps65
  go_wp2_with fail
  refine HF.out.mono ?_
  intro e w1 hr
  obtain ⟨hsz, hc, hz, rfl | ⟨n, rfl⟩⟩ := HR.out e w1 hr
  · have HRR := Lib.hid hr
    clear hr HF HR
    have hq : (w1.setCell ⟨w.heap.size, 0, none⟩ (.int .i64 0)).cell? ⟨w.heap.size, 0, none⟩ = some (.int .i64 0) := World.cell?_setCell_same' _ _ _ (by rw [hc]; rfl)
    go_wp2
    refine leaves_cons (f := 116) (args := #[.pointer (some ⟨w.heap.size, 0, none⟩)]) (by simp) (by simp [go_sem]) ?_
    refine (catch_idle ⟨w.heap.size, 0, none⟩ _).mono ?_
    rintro e u' w'' ⟨rfl, rfl, rfl⟩
    simp [Leaves, settle, results, Tryz.results65, go_sem]
    rw [hq]
    exact ⟨_, rfl, _, w1, 0, HRR.out, grown_set _ _ _, rfl, .inl ⟨rfl, rfl⟩⟩
  · have HRR := Lib.hid hr
    clear hr HF HR
    have hq : ((w1.setCell ⟨w.heap.size, 0, none⟩ (.int .i64 n)).alloc (.cells #[.int .i64 n] 156)).cell? ⟨w.heap.size, 0, none⟩ = some (.int .i64 n) :=
      (World.cell?_alloc_past _ _ _ (by simpa using hsz)).trans (World.cell?_setCell_same' _ _ _ (by rw [hc]; rfl))
    go_wp2
    refine leaves_cons (f := 116) (args := #[.pointer (some ⟨w.heap.size, 0, none⟩)]) (by simp) (by simp [go_sem]) ?_
    refine (catch_trouble ⟨w.heap.size, 0, none⟩ 0 n [] _ hsz hc hz).mono ?_
    rintro e u' w'' ⟨rfl, rfl, rfl⟩
    simp [Leaves, settle, results, Tryz.results65, go_sem]
    rw [hq]
    exact ⟨_, rfl, _, w1, n, HRR.out, (grown_set _ _ _).trans (World.grownBy_alloc _ _ _), rfl, .inr rfl⟩
end Go.Proofs.YtholmlkjcobkdaaGreat
