/- The size of a term: what the method 'size' hands back. -/
import Derived.Test.YtholmlkjcobkdaaGreatBase
namespace Go.Proofs.YtholmlkjcobkdaaGreat
set_option linter.all false
set_option linter.unusedSimpArgs false
set_option linter.unusedVariables false
open Go.RowKit

theorem size_v (n : Int) (w : World) : Calls Tryz.prog 189 #[.int .u8 n] w fun e w' => e = .returned (.int .i64 1) ∧ Ext w w' := by
  go_enter Tryz.func189, Tryz.ntmps189
  go_wp2
  go_ret
  exact ⟨rfl, Ext.refl _⟩

theorem size_k (b : Int) (w : World) : Calls Tryz.prog 192 #[.agg #[.int .u8 b, .slice none 0 0]] w fun e w' => e = .returned (.int .i64 1) ∧ Ext w w' := by
  go_enter Tryz.func192, Tryz.ntmps192
  go_wp2
  refine wp_loop_rounds 1 ?_
  rw [rounds_succ]
  go_wp2
  go_ret
  exact ⟨rfl, (Below.refl _ _).alloc (Nat.le_refl _) _⟩

/-- A method of x without arguments: what it hands back in whatever world in which all of w lies as it did. -/
def Gives (name : String) (R : Value) (x : Value) (w : World) : Prop :=
  ∀ w', Ext w w' → Invokes x name #[] w' fun e w'' => e = .returned R ∧ Ext w' w''

set_option maxRecDepth 100000 in
theorem size_u (b : Int) (a o cap : Nat) (x : Value) (w : World) (n : Nat) (hn : n ≤ 100000) (hc : w.cell? ⟨a, o, none⟩ = some x)
    (hx : Gives "numnah/rules.size" (.int .i64 n) x w) :
    Calls Tryz.prog 192 #[.agg #[.int .u8 b, .slice (some ⟨a, o, none⟩) 1 cap]] w fun e w' => e = .returned (.int .i64 (1 + (n : Int))) ∧ Ext w w' := by
  have ha := lt_of_cell hc
  go_enter Tryz.func192, Tryz.ntmps192
  go_wp2
  refine wp_loop_rounds 2 ?_
  rw [rounds_succ]
  go_wp2_with (refine wpList_invoke0 x rfl ?_; intro K hK; refine (hx _ ((Below.refl _ _).alloc (Nat.le_refl _) _)).mono ?_; rintro e w1 ⟨rfl, hb⟩)
  rw [rounds_succ]
  go_wp2
  go_ret
  exact ⟨rfl, Ext.trans ((Below.refl _ _).alloc (Nat.le_refl _) _) hb⟩

set_option maxRecDepth 100000 in
theorem size_p (b : Int) (a o cap : Nat) (x y : Value) (w : World) (n m : Nat) (hn : n ≤ 100000) (hm : m ≤ 100000) (hc : w.cell? ⟨a, o, none⟩ = some x)
    (hd : w.cell? ⟨a, o + 1, none⟩ = some y) (hx : Gives "numnah/rules.size" (.int .i64 n) x w) (hy : Gives "numnah/rules.size" (.int .i64 m) y w) :
    Calls Tryz.prog 192 #[.agg #[.int .u8 b, .slice (some ⟨a, o, none⟩) 2 cap]] w fun e w' => e = .returned (.int .i64 (1 + (n : Int) + m)) ∧ Ext w w' := by
  have ha := lt_of_cell hc
  go_enter Tryz.func192, Tryz.ntmps192
  go_wp2
  refine wp_loop_rounds 3 ?_
  rw [rounds_succ]
  go_wp2_with (refine wpList_invoke0 x rfl ?_; intro K hK; refine (hx _ ((Below.refl _ _).alloc (Nat.le_refl _) _)).mono ?_; rintro e w1 ⟨rfl, hb⟩)
  have h1 := Ext.trans ((Below.refl _ _).alloc (Nat.le_refl _) _) hb
  have hd1 := h1.cell hd
  rw [rounds_succ]
  go_wp2_with (refine wpList_invoke0 y rfl ?_; intro K hK; refine (hy _ h1).mono ?_; rintro e w2 ⟨rfl, hb2⟩)
  rw [rounds_succ]
  go_wp2
  go_ret
  exact ⟨rfl, h1.trans hb2⟩

theorem meth_size_v (n : Int) (w : World) : (callMethod (.iface 131 (.int .u8 n)) "numnah/rules.size" #[]).run Tryz.prog w = .ok (.enter 189 #[.int .u8 n]) w := by kernel_rfl
theorem meth_size_c (n : Int) (x : Value) (w : World) : (callMethod (tC n x) "numnah/rules.size" #[]).run Tryz.prog w = .ok (.enter 192 #[.agg #[.int .u8 n, x]]) w := by kernel_rfl

/-- The method 'size' of whatever stands for a term: its size. -/
theorem size_inv {S : Nat → Prop} : ∀ (t : Tm) (x : Value) (w : World), t.size ≤ 100000 → IsT S w t x → Gives "numnah/rules.size" (.int .i64 t.size) x w := by
  intro t
  induction t with
  | v i => rintro x w _ rfl w' he; exact ⟨_, _, meth_size_v _ _, size_v _ _⟩
  | k b => rintro x w _ rfl w' he; exact ⟨_, _, meth_size_c _ _ _, size_k _ _⟩
  | u b t ih =>
    rintro x w hs ⟨a, o, cap, y, rfl, -, hc, ht⟩ w' he
    simp only [Tm.size] at hs
    refine ⟨_, _, meth_size_c _ _ _, (size_u _ a o cap y w' t.size (by omega) (he.cell hc) (fun w2 h2 => ih y w' (by omega) (ht.ext he) w2 h2)).mono ?_⟩
    rintro e w2 ⟨rfl, h2⟩
    exact ⟨by simp only [Tm.size]; congr 2; omega, h2⟩
  | p b s t ihs iht =>
    rintro x w hs ⟨a, o, cap, y, z, rfl, -, hc, hd, hs', ht⟩ w' he
    simp only [Tm.size] at hs
    refine ⟨_, _, meth_size_c _ _ _, (size_p _ a o cap y z w' s.size t.size (by omega) (by omega) (he.cell hc) (he.cell hd)
      (fun w2 h2 => ihs y w' (by omega) (hs'.ext he) w2 h2) (fun w2 h2 => iht z w' (by omega) (ht.ext he) w2 h2)).mono ?_⟩
    rintro e w2 ⟨rfl, h2⟩
    exact ⟨by simp only [Tm.size]; congr 2; omega, h2⟩

end Go.Proofs.YtholmlkjcobkdaaGreat
