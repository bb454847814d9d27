/- Precedences: whether one proves rules; how one is made of a string. -/
import Derived.Test.YtholmlkjcobkdaaGreatCLaw
namespace Go.Proofs.YtholmlkjcobkdaaGreat
set_option linter.all false
set_option linter.unusedSimpArgs false
set_option linter.unusedVariables false
open Go.RowKit
set_option maxRecDepth 100000

theorem IsLaws.keep {S S' : Nat → Prop} {w w' : World} {v : Value} {ls : List (Tm × Tm)} (hz : w.heap.size ≤ w'.heap.size) (h : ∀ a o y, w.cell? ⟨a, o, none⟩ = some y → w'.cell? ⟨a, o, none⟩ = some y) (hS : ∀ b, S b → S' b) (hl : IsLaws S w v ls) : IsLaws S' w' v ls := by
  rcases hl with h1 | ⟨a, o, cap, xs, h1, h2, h3, h4, h5⟩
  · exact .inl h1
  · exact .inr ⟨a, o, cap, xs, h1, Nat.lt_of_lt_of_le h2 hz, h3, fun j x hj => h _ _ _ (h4 j x hj), h5.keep fun a o y hs hc => ⟨h _ _ _ hc, hS _ hs⟩⟩

theorem Known.cell {rk : Int → Int} {K : Nat} {w w' : World} (h : Known rk K w) (hg : w.grownBy w' (some K)) (a o : Nat) (y : Value) (hc : w.cell? ⟨a, o, none⟩ = some y) : w'.cell? ⟨a, o, none⟩ = some y := by
  obtain ⟨m, hm, -⟩ := h
  exact (hm.keeps (S := Any) hg a o y trivial hc).1

/-- What the predicate of 'proves' keeps. -/
structure PJ (rk : Int → Int) (R K B : Nat) (v : Value) (ls : List (Tm × Tm)) (w W : World) : Prop where
  g : GW rk R K W
  b : Bx W B #[.map (some R), .map (some K)] 120
  l : IsLaws Any W v ls
  gr : w.grownBy W (some K)

theorem PJ.step {rk : Int → Int} {R K B : Nat} {v : Value} {ls : List (Tm × Tm)} {w W W' : World} (h : PJ rk R K B v ls w W) (hg : W.grownBy W' (some K)) (hk : Known rk K W') (hB : B ≠ K) : PJ rk R K B v ls w W' :=
  ⟨h.g.step hg hk, h.b.grown hg (ne_some hB), h.l.keep hg.size (h.g.known.cell hg) (fun _ h => h), h.gr.trans hg⟩

theorem proves1_any (rk : Int → Int) (R K B : Nat) (v : Value) (ls : List (Tm × Tm)) (w : World) (hB : B ≠ K) (hs : ∀ l ∈ ls, l.1.size ≤ 100000 ∧ l.2.size ≤ 100000) :
    LawPred (PJ rk R K B v ls w) 128 #[.pointer (some ⟨B, 0, none⟩)] (fun l => !l.1.gt rk l.2) ls := by
  intro l hl T U x y W hJ hx hy
  have hE := Ext.new W (.cells #[.iface T x, .iface U y] 144)
  have HG := Lib.hid (greater_any rk R K l.1 l.2 _ _ _ (hs l hl).1 (hs l hl).2 (hJ.g.ext hE) (hx.ext hE) (hy.ext hE))
  have HE := Lib.hid hE
  have HJ := Lib.hid hJ
  have c0 := hJ.b.at 0 (y := .map (some R)) rfl
  have c1 := hJ.b.at 1 (y := .map (some K)) rfl
  have hlt := hJ.b.lt
  clear hJ hE hx hy
  go_enter Tryz.func128, Tryz.ntmps128
  go_wp2_with ((with_reducible refine HG.out.mono ?_); clear HG; rintro e w1 ⟨rfl, hk, hg⟩; have HK := Lib.hid hk; have HGr := Lib.hid hg; clear hk hg)
  go_ret
  exact ⟨rfl, HJ.out.step ((HE.out.grows' _).trans HGr.out) HK.out hB⟩

/-- Whether all rules have the greater side on the left. -/
def provesT (rk : Int → Int) (ls : List (Tm × Tm)) : Bool := ls.all fun l => l.1.gt rk l.2

theorem not_any (rk : Int → Int) (ls : List (Tm × Tm)) : (!ls.any fun l => !l.1.gt rk l.2) = provesT rk ls := by
  unfold provesT
  induction ls with
  | nil => rfl
  | cons a l ih => rw [List.any_cons, List.all_cons, ← ih]; simp

theorem proves_any {S : Nat → Prop} (rk : Int → Int) (R K : Nat) (v : Value) (ls : List (Tm × Tm)) (w : World) (hn : ls.length ≤ 1000) (hs : ∀ l ∈ ls, l.1.size ≤ 100000 ∧ l.2.size ≤ 100000) (hw : GW rk R K w) (hl : IsLaws S w v ls) :
    Calls Tryz.prog 88 #[.agg #[.map (some R), .map (some K)], v] w (Gts rk K (provesT rk ls) w) := by
  have hE := Ext.new w (.cells #[.map (some R), .map (some K)] 120)
  have hne : w.heap.size ≠ K := by have := hw.known.lt; omega
  have hJ : PJ rk R K w.heap.size v ls w (w.alloc (.cells #[.map (some R), .map (some K)] 120)) := ⟨hw.ext hE, Bx.new _ _ _, hl.keep hE.size (fun _ _ _ hc => hE.cell hc) (fun _ _ => trivial), hE.grows' _⟩
  have HC := Lib.hid (containsLaw_any (PJ rk R K w.heap.size v ls w) 128 #[.pointer (some ⟨w.heap.size, 0, none⟩)] (fun l => !l.1.gt rk l.2) ls v _ hn (fun _ _ => by kernel_rfl) (fun W h => h.l) hJ (proves1_any rk R K w.heap.size v ls w hne hs))
  obtain ⟨p, c, rfl⟩ := hl.slice
  have hmf : ∀ (fn : Fn) (first cap : Array Value) (w : World), (Instr.makeFunc fn first cap).run Tryz.prog w = .ok (.func fn first cap) w := fun _ _ _ _ => rfl
  clear hE hJ hl hw
  go_enter Tryz.func88, Tryz.ntmps88
  go_wp2_with ((with_reducible refine HC.out.mono ?_); clear HC; rintro e w1 ⟨rfl, hj⟩; have HJ := Lib.hid hj; clear hj)
  go_ret
  exact ⟨by rw [← not_any]; rfl, HJ.out.g.known, HJ.out.gr⟩

end Go.Proofs.YtholmlkjcobkdaaGreat
