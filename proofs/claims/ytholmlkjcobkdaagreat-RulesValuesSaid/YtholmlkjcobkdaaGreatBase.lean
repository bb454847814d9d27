/- What a value in memory must be to stand for a term; a method called on such a value. -/
import Derived.Test.YtholmlkjcobkdaaGreatProg
import Derived.Test.YtholmlkjcobkdaaGreatTm
import Derived.WalkKit
import Derived.WalkLawsBesides
import Derived.WalkSpells
import Derived.Lib.Hide
namespace Go.Proofs.YtholmlkjcobkdaaGreat
set_option linter.all false
set_option linter.unusedSimpArgs false
set_option linter.unusedVariables false
open Go.RowKit

def kI (b : Bool) : Int := if b then 98 else 97
def uI (b : Bool) : Int := if b then 100 else 99
def pI (b : Bool) : Int := if b then 102 else 101
def vI (i : Fin 3) : Int := 120 + (i.val : Int)

def tV (i : Fin 3) : Value := .iface 131 (.int .u8 (vI i))
def tC (c : Int) (parts : Value) : Value := .iface 149 (.agg #[.int .u8 c, parts])

/-- The value x stands for the term in the world w; its parts lie in blocks of S. -/
def IsT (S : Nat → Prop) (w : World) : Tm → Value → Prop
  | .v i, x => x = tV i
  | .k b, x => x = tC (kI b) (.slice none 0 0)
  | .u b t, x => ∃ a o cap y, x = tC (uI b) (.slice (some ⟨a, o, none⟩) 1 cap) ∧ S a ∧ w.cell? ⟨a, o, none⟩ = some y ∧ IsT S w t y
  | .p b s t, x => ∃ a o cap y z, x = tC (pI b) (.slice (some ⟨a, o, none⟩) 2 cap) ∧ S a ∧ w.cell? ⟨a, o, none⟩ = some y ∧
      w.cell? ⟨a, o + 1, none⟩ = some z ∧ IsT S w s y ∧ IsT S w t z

theorem IsT.keep {S S' : Nat → Prop} {w w' : World} (h : ∀ a o y, S a → w.cell? ⟨a, o, none⟩ = some y → w'.cell? ⟨a, o, none⟩ = some y ∧ S' a) :
    ∀ {t : Tm} {x : Value}, IsT S w t x → IsT S' w' t x := by
  intro t
  induction t with
  | v i => intro x hx; exact hx
  | k b => intro x hx; exact hx
  | u b t ih =>
    rintro x ⟨a, o, cap, y, rfl, hS, hc, ht⟩
    exact ⟨a, o, cap, y, rfl, (h a o y hS hc).2, (h a o y hS hc).1, ih ht⟩
  | p b s t ihs iht =>
    rintro x ⟨a, o, cap, y, z, rfl, hS, hc, hd, hs, ht⟩
    exact ⟨a, o, cap, y, z, rfl, (h a o y hS hc).2, (h a o y hS hc).1, (h a _ z hS hd).1, ihs hs, iht ht⟩

theorem lt_of_cell {w : World} {a o : Nat} {y : Value} (h : w.cell? ⟨a, o, none⟩ = some y) : a < w.heap.size := by
  simp only [World.cell?] at h
  split at h
  · rename_i hb; exact (Array.getElem?_eq_some_iff.1 hb).1
  · simp at h

/-- What lies in w lies in w' as it did. -/
def Ext (w w' : World) : Prop := Below w.heap.size w w'

theorem Ext.cell {w w' : World} (h : Ext w w') {a o : Nat} {y : Value} (hc : w.cell? ⟨a, o, none⟩ = some y) : w'.cell? ⟨a, o, none⟩ = some y :=
  (Below.cell h (p := ⟨a, o, none⟩) (lt_of_cell hc)).trans hc

theorem Ext.refl (w : World) : Ext w w := Below.refl _ _
theorem Ext.trans {a b c : World} (h : Ext a b) (k : Ext b c) : Ext a c := Below.trans h (Below.mono k h.size)

theorem Ext.drew {a b : World} (h : Ext a b) : Ext a b.drew := Below.drew h
theorem Ext.alloc {a b : World} (h : Ext a b) (o : Obj) : Ext a (b.alloc o) := Below.alloc h h.size o
theorem Ext.new (a : World) (o : Obj) : Ext a (a.alloc o) := (Ext.refl a).alloc o

theorem IsT.ext {S : Nat → Prop} {w w' : World} (h : Ext w w') {t : Tm} {x : Value} (hx : IsT S w t x) : IsT S w' t x :=
  hx.keep fun _ _ _ hS hc => ⟨h.cell hc, hS⟩

theorem IsT.mono {S S' : Nat → Prop} (h : ∀ b, S b → S' b) {w : World} {t : Tm} {x : Value} (hx : IsT S w t x) : IsT S' w t x :=
  hx.keep fun _ _ _ hS hc => ⟨hc, h _ hS⟩

theorem IsT.lt {S : Nat → Prop} {w : World} {t : Tm} {x : Value} (hx : IsT S w t x) : IsT (fun b => S b ∧ b < w.heap.size) w t x :=
  hx.keep fun _ _ _ hS hc => ⟨hc, hS, lt_of_cell hc⟩

/-- A method called on a value behind the interface. -/
def Invokes (v : Value) (name : String) (args : Array Value) (w : World) (R : Ending → World → Prop) : Prop :=
  ∃ f xs, (callMethod v name args).run Tryz.prog w = .ok (.enter f xs) w ∧ Calls Tryz.prog f xs w R

theorem Invokes.mono {v : Value} {name : String} {args : Array Value} {w : World} {R R' : Ending → World → Prop} (h : Invokes v name args w R)
    (hr : ∀ e w', R e w' → R' e w') : Invokes v name args w R' :=
  let ⟨f, xs, h1, h2⟩ := h; ⟨f, xs, h1, h2.mono hr⟩

theorem wpList_invoke {ops : Array Oper} {Q : Exit → Act → World → Prop} {a : Act} {w : World} {rest : List Oper} {dst : Option Tmp} {type : TypeId} {pos : String}
    {after : Array Edge} {recv : Operand} {name : String} {xs : Array Operand} {ats : Array TypeId} (v : Value) (hv : a.eval recv = v)
    (h : ∀ K : Act → World → Prop, (∀ a w, wpList Tryz.prog ops Q rest a w → K a w) → Invokes v name (xs.map a.eval) w fun
      | .returned v, w'' => K (a.put dst v) w''
      | .panicked chain, w'' => Q (.panic chain) a w''
      | .outgrown, _ => LetsOut Q) :
    wpList Tryz.prog ops Q ({ dst, op := .call { callee := .invoke recv name, args := xs, argTypes := ats }, type, pos, after, guard := none } :: rest) a w := by
  refine wpList_plain rfl fun K hK => ?_
  obtain ⟨f, ys, h1, h2⟩ := h K hK
  have e : ((execOp a.eval { dst, op := .call { callee := .invoke recv name, args := xs, argTypes := ats }, type, pos, after, guard := none }).run Tryz.prog w) = .ok (.enter f ys) w := by
    rw [← h1, ← hv]
    have e1 : (#[a.eval recv] ++ xs.map a.eval)[0]? = some (a.eval recv) := by
      rw [Array.getElem?_append_left (by simp)]; rfl
    have e2 : (xs.map a.eval).extract 0 xs.size = xs.map a.eval := by simp
    simp [execOp, resolve, invoke, e1, e2]
  unfold Oper.wp
  rw [e]
  exact h2

theorem wpList_invoke0 {ops : Array Oper} {Q : Exit → Act → World → Prop} {a : Act} {w : World} {rest : List Oper} {dst : Option Tmp} {type : TypeId} {pos : String}
    {after : Array Edge} {recv : Operand} {name : String} {ats : Array TypeId} (v : Value) (hv : a.eval recv = v)
    (h : ∀ K : Act → World → Prop, (∀ a w, wpList Tryz.prog ops Q rest a w → K a w) → Invokes v name #[] w fun
      | .returned v, w'' => K (a.put dst v) w''
      | .panicked chain, w'' => Q (.panic chain) a w''
      | .outgrown, _ => LetsOut Q) :
    wpList Tryz.prog ops Q ({ dst, op := .call { callee := .invoke recv name, args := #[], argTypes := ats }, type, pos, after, guard := none } :: rest) a w :=
  wpList_invoke v hv (by simpa using h)

theorem wpList_invoke1 {ops : Array Oper} {Q : Exit → Act → World → Prop} {a : Act} {w : World} {rest : List Oper} {dst : Option Tmp} {type : TypeId} {pos : String}
    {after : Array Edge} {recv x : Operand} {name : String} {ats : Array TypeId} (v y : Value) (hv : a.eval recv = v) (hy : a.eval x = y)
    (h : ∀ K : Act → World → Prop, (∀ a w, wpList Tryz.prog ops Q rest a w → K a w) → Invokes v name #[y] w fun
      | .returned v, w'' => K (a.put dst v) w''
      | .panicked chain, w'' => Q (.panic chain) a w''
      | .outgrown, _ => LetsOut Q) :
    wpList Tryz.prog ops Q ({ dst, op := .call { callee := .invoke recv name, args := #[x], argTypes := ats }, type, pos, after, guard := none } :: rest) a w :=
  wpList_invoke v hv (by simpa [hy] using h)

/-- Block B of the world, whole. -/
def Bx (w : World) (B : Nat) (cs : Array Value) (t : TypeId) : Prop := w.heap[B]? = some (.cells cs t (0, 0))

theorem Bx.cell {w : World} {B : Nat} {cs : Array Value} {t : TypeId} (h : Bx w B cs t) (o : Nat) : w.cell? ⟨B, o, none⟩ = cs[o]? := by simp [World.cell?, show _ = _ from h]
theorem Bx.free {w : World} {B : Nat} {cs : Array Value} {t : TypeId} (h : Bx w B cs t) (o : Nat) : w.frozen? ⟨B, o, none⟩ = false := by simp [World.frozen?, show _ = _ from h]
theorem Bx.lt {w : World} {B : Nat} {cs : Array Value} {t : TypeId} (h : Bx w B cs t) : B < w.heap.size := (Array.getElem?_eq_some_iff.1 h).1
theorem Bx.set {w : World} {B : Nat} {cs : Array Value} {t : TypeId} (h : Bx w B cs t) (o : Nat) (v : Value) : Bx (w.setCell ⟨B, o, none⟩ v) B (cs.setIfInBounds o v) t := by
  unfold Bx at *; simp [World.setCell, Array.getElem?_modify, h]
theorem Bx.alloc {w : World} {B : Nat} {cs : Array Value} {t : TypeId} (h : Bx w B cs t) (o : Obj) : Bx (w.alloc o) B cs t := by
  unfold Bx at *; rw [Below.heap_alloc _ _ _ (Array.getElem?_eq_some_iff.1 h).1]; exact h
theorem Bx.grown {w w' : World} {B : Nat} {cs : Array Value} {t : TypeId} (h : Bx w B cs t) {r : Option Nat} (hg : w.grownBy w' r) (hr : some B ≠ r) : Bx w' B cs t := by
  unfold Bx at *; rw [hg.block B (Array.getElem?_eq_some_iff.1 h).1 hr]; exact h
theorem Bx.ext {w w' : World} {B : Nat} {cs : Array Value} {t : TypeId} (h : Bx w B cs t) (hg : Ext w w') : Bx w' B cs t := by
  unfold Bx at *; rw [Below.block hg B (Array.getElem?_eq_some_iff.1 h).1]; exact h
theorem Bx.other {w : World} {B : Nat} {cs : Array Value} {t : TypeId} (h : Bx w B cs t) {p : Addr} (hp : B ≠ p.block) (v : Value) : Bx (w.setCell p v) B cs t := by
  unfold Bx at *; rw [Below.heap_setCell _ _ _ _ hp]; exact h
theorem Bx.drew {w : World} {B : Nat} {cs : Array Value} {t : TypeId} (h : Bx w B cs t) : Bx w.drew B cs t := h
theorem Bx.new (w : World) (cs : Array Value) (t : TypeId) : Bx (w.alloc (.cells cs t)) w.heap.size cs t := by
  unfold Bx; show (w.heap.push _)[w.heap.size]? = _; simp

theorem IsT.grown {S : Nat → Prop} {w w' : World} {r : Option Nat} (h : w.grownBy w' r) (hr : ∀ b, S b → some b ≠ r) {t : Tm} {x : Value} (hx : IsT S w t x) : IsT S w' t x :=
  hx.keep fun a o y hS hc => ⟨h.cell (a := ⟨a, o, none⟩) hc (hr a hS), hS⟩

theorem grown_undrew {w w' : World} {r : Option Nat} (h : w.drew.grownBy w' r) : w.grownBy w' r := ⟨h.os, h.tape, h.output, h.size, h.block⟩
theorem Ext.undrew {w w' : World} (h : Ext w.drew w') : Ext w w' := ⟨h.os, h.tape, h.output, h.size, h.block⟩
theorem grown_set (w : World) (p : Addr) (v : Value) : w.grownBy (w.setCell p v) (some p.block) :=
  ⟨rfl, rfl, rfl, by simp [World.setCell], fun i _ hi => Below.heap_setCell _ _ _ _ (fun e => hi (by rw [e]))⟩

theorem IsT.iface {S : Nat → Prop} {w : World} {t : Tm} {x : Value} (hx : IsT S w t x) : ∃ T y, x = .iface T y := by
  cases t with
  | v i => exact ⟨_, _, hx⟩
  | k b => exact ⟨_, _, hx⟩
  | u b t => obtain ⟨_, _, _, _, rfl, _⟩ := hx; exact ⟨_, _, rfl⟩
  | p b s t => obtain ⟨_, _, _, _, _, rfl, _⟩ := hx; exact ⟨_, _, rfl⟩

theorem ne_some {a b : Nat} (h : a ≠ b) : some a ≠ some b := fun e => h (Option.some.inj e)

theorem Ext.grown {w a b : World} {r : Option Nat} (h : Ext w a) (hg : a.grownBy b r) (hr : ∀ k, r = some k → w.heap.size ≤ k) : Ext w b :=
  Below.grown h hg h.size hr
theorem some_le {n B : Nat} (h : n ≤ B) : ∀ k, some B = some k → n ≤ k := fun _ e => Option.some.inj e ▸ h

theorem step_invoke1 {ops : Array Oper} {Q : Exit → Act → World → Prop} {K : Act → World → Prop} {E : Prop} {a : Act} {w : World} {dst : Option Tmp} {type : TypeId} {pos : String}
    {after : Array Edge} {recv x : Operand} {name : String} {ats : Array TypeId} (v y : Value) (hv : a.eval recv = v) (hy : a.eval x = y)
    (h : Invokes v name #[y] w fun
      | .returned v, w'' => K (a.put dst v) w''
      | .panicked chain, w'' => Q (.panic chain) a w''
      | .outgrown, _ => LetsOut Q) :
    if Region.wanted { dst, op := .call { callee := .invoke recv name, args := #[x], argTypes := ats }, type, pos, after, guard := none } (yielded ops a.tmps) = true then
      Oper.wp Tryz.prog { dst, op := .call { callee := .invoke recv name, args := #[x], argTypes := ats }, type, pos, after, guard := none } a w K Q else E := by
  rw [if_pos (by simp [Region.wanted])]
  obtain ⟨f, ys, h1, h2⟩ := h
  have e : ((execOp a.eval { dst, op := .call { callee := .invoke recv name, args := #[x], argTypes := ats }, type, pos, after, guard := none }).run Tryz.prog w) = .ok (.enter f ys) w := by
    rw [← h1, ← hv, ← hy]
    simp [execOp, resolve, invoke]
  unfold Oper.wp
  rw [e]
  exact h2

end Go.Proofs.YtholmlkjcobkdaaGreat
