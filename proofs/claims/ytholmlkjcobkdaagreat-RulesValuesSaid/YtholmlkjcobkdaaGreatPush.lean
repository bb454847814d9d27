/- append of one element onto a slice that the call itself has made. -/
import Derived.Test.YtholmlkjcobkdaaGreatBase
import Derived.Maps.AppendAt
import Derived.Deep.AppendLies
namespace Go.Proofs.YtholmlkjcobkdaaGreat
set_option linter.all false
set_option linter.unusedSimpArgs false
set_option linter.unusedVariables false
open Go.RowKit

/-- What an append of one element onto an owned slice leaves. -/
def Pushed (w : World) (base : Nat) (e : TypeId) (v : Value) (n : Nat) (xs : List Value) (u : Value) (v' : Value) (w' : World) : Prop :=
  w'.ownsRow base e 1 v' (n + 1) (xs ++ [u]) ∧ w.grownBy w' v.ownBlock ∧ ∃ g cap, v' = .slice (some ⟨g, 0, none⟩) (n + 1) cap ∧ (v.ownBlock = some g ∨ w.heap.size ≤ g) ∧ g < w'.heap.size

theorem wp_push {P : Program} {Q : Exit → Act → World → Prop} {K : Act → World → Prop} {a : Act} {w : World} {o : Oper}
    {s x : Operand} {t : TypeId} (e : TypeId) (i : TypeInfo) (z : Value) (bytes : Nat) (ht : P.underlying t = some (.slice e)) (hi : P.info? e = some i)
    (hz : i.zero = some z) (hsize : i.size = 1) (hby : i.bytes = bytes) (hzs : z.cells.size = 1) (hbs : bytes ≤ 64)
    (base : Nat) (v : Value) (n : Nat) (xs : List Value) (u : Value) (ho : o.op = .call { callee := .builtin .append, args := #[s, x], argTypes := #[t, t] }) (hs : a.eval s = v) (hown : w.ownsRow base e 1 v n xs)
    (hx : a.eval x = .slice (some ⟨w.heap.size, 0, none⟩) 1 1) (hu : u.oneCell' = true) (hn : n ≤ 1000000000) (hb : base ≤ w.heap.size)
    (h : ∀ v' w', Pushed w base e v n xs u v' w' → K (a.put o.dst v') w') :
    o.wp P a (w.alloc (.cells #[u] e)) K Q := by
  refine wp_append_lies (w.alloc (.cells #[u] e)) s x t ho base e i z 1 bytes ht hi hz hsize hby hzs (by decide) v n xs hs (hown.alloc _) ⟨w.heap.size, 0, none⟩ 1 1 [u] hx rfl
    (cell_one_new _ _ _) (by simpa using hu) (by decide) (by unfold maxLen; omega) ?_ (by simp; omega) _ rfl ?_
  · have : (n + 1) * bytes ≤ (n + 1) * 64 := Nat.mul_le_mul_left _ hbs
    omega
  · intro g cap w' h1 h2 h3 h4
    refine h _ w' ⟨h1, (World.grownBy_alloc w _ _).trans h2, g, cap, rfl, h3.imp id (fun e => ?_), h4⟩
    rw [e]; simp

theorem wpList_push {P : Program} {ops : Array Oper} {Q : Exit → Act → World → Prop} {a : Act} {w : World} {rest : List Oper} {dst : Option Tmp} {type : TypeId} {pos : String}
    {after : Array Edge} {s x : Operand} {t : TypeId} (e : TypeId) (i : TypeInfo) (z : Value) (bytes : Nat) (ht : P.underlying t = some (.slice e)) (hi : P.info? e = some i)
    (hz : i.zero = some z) (hsize : i.size = 1) (hby : i.bytes = bytes) (hzs : z.cells.size = 1) (hbs : bytes ≤ 64)
    (base : Nat) (v : Value) (n : Nat) (xs : List Value) (u : Value) (hs : a.eval s = v) (hown : w.ownsRow base e 1 v n xs)
    (hx : a.eval x = .slice (some ⟨w.heap.size, 0, none⟩) 1 1) (hu : u.oneCell' = true) (hn : n ≤ 1000000000) (hb : base ≤ w.heap.size)
    (h : ∀ v' w', Pushed w base e v n xs u v' w' → wpList P ops Q rest (a.put dst v') w') :
    wpList P ops Q ({ dst, op := .call { callee := .builtin .append, args := #[s, x], argTypes := #[t, t] }, type, pos, after, guard := none } :: rest) a (w.alloc (.cells #[u] e)) :=
  wpList_plain rfl fun _ hK => wp_push e i z bytes ht hi hz hsize hby hzs hbs base v n xs u rfl hs hown hx hu hn hb fun v' w' h' => hK _ _ (h v' w' h')

theorem step_push {P : Program} {ops : Array Oper} {Q : Exit → Act → World → Prop} {K : Act → World → Prop} {E : Prop} {a : Act} {w : World} {dst : Option Tmp} {type : TypeId} {pos : String}
    {after : Array Edge} {s x : Operand} {t : TypeId} (e : TypeId) (i : TypeInfo) (z : Value) (bytes : Nat) (ht : P.underlying t = some (.slice e)) (hi : P.info? e = some i)
    (hz : i.zero = some z) (hsize : i.size = 1) (hby : i.bytes = bytes) (hzs : z.cells.size = 1) (hbs : bytes ≤ 64)
    (base : Nat) (v : Value) (n : Nat) (xs : List Value) (u : Value) (hs : a.eval s = v) (hown : w.ownsRow base e 1 v n xs)
    (hx : a.eval x = .slice (some ⟨w.heap.size, 0, none⟩) 1 1) (hu : u.oneCell' = true) (hn : n ≤ 1000000000) (hb : base ≤ w.heap.size)
    (h : ∀ v' w', Pushed w base e v n xs u v' w' → K (a.put dst v') w') :
    if Region.wanted { dst, op := .call { callee := .builtin .append, args := #[s, x], argTypes := #[t, t] }, type, pos, after, guard := none } (yielded ops a.tmps) = true
      then Oper.wp P { dst, op := .call { callee := .builtin .append, args := #[s, x], argTypes := #[t, t] }, type, pos, after, guard := none } a (w.alloc (.cells #[u] e)) K Q else E := by
  rw [if_pos (by simp [Region.wanted])]
  exact wp_push e i z bytes ht hi hz hsize hby hzs hbs base v n xs u rfl hs hown hx hu hn hb h

theorem info_str : ∃ i, Tryz.prog.info? 9 = some i ∧ i.zero = some (.string ⟨#[]⟩) ∧ i.size = 1 ∧ i.bytes = 16 :=
  info_parts (by kernel_rfl : (Tryz.prog.info? 9).map (fun i => (i.zero, i.size, i.bytes)) = some (some (.string ⟨#[]⟩), 1, 16))
theorem info_term : ∃ i, Tryz.prog.info? 99 = some i ∧ i.zero = some .nilIface ∧ i.size = 1 ∧ i.bytes = 16 :=
  info_parts (by kernel_rfl : (Tryz.prog.info? 99).map (fun i => (i.zero, i.size, i.bytes)) = some (some .nilIface, 1, 16))
theorem info_int : ∃ i, Tryz.prog.info? 3 = some i ∧ i.zero = some (.int .i64 0) ∧ i.size = 1 ∧ i.bytes = 8 :=
  info_parts (by kernel_rfl : (Tryz.prog.info? 3).map (fun i => (i.zero, i.size, i.bytes)) = some (some (.int .i64 0), 1, 8))

section
variable {ops : Array Oper} {Q : Exit → Act → World → Prop} {a : Act} {w : World} {rest : List Oper} {dst : Option Tmp} {type : TypeId} {pos : String} {after : Array Edge} {s x : Operand}

theorem push_str (base : Nat) (v : Value) (n : Nat) (xs : List Value) (u : ByteArray) (hs : a.eval s = v) (hown : w.ownsRow base 9 1 v n xs)
    (hx : a.eval x = .slice (some ⟨w.heap.size, 0, none⟩) 1 1) (hn : n ≤ 1000000000) (hb : base ≤ w.heap.size)
    (h : ∀ v' w', Pushed w base 9 v n xs (.string u) v' w' → wpList Tryz.prog ops Q rest (a.put dst v') w') :
    wpList Tryz.prog ops Q ({ dst, op := .call { callee := .builtin .append, args := #[s, x], argTypes := #[36, 36] }, type, pos, after, guard := none } :: rest) a (w.alloc (.cells #[.string u] 9)) := by
  obtain ⟨i, h1, h2, h3, h4⟩ := info_str
  exact wpList_push 9 i _ 16 Tryz.underlying36 h1 h2 h3 h4 rfl (by decide) base v n xs _ hs hown hx rfl hn hb h

theorem push_term (base : Nat) (v : Value) (n : Nat) (xs : List Value) (u : Value) (hs : a.eval s = v) (hown : w.ownsRow base 99 1 v n xs)
    (hx : a.eval x = .slice (some ⟨w.heap.size, 0, none⟩) 1 1) (hu : u.oneCell' = true) (hn : n ≤ 1000000000) (hb : base ≤ w.heap.size)
    (h : ∀ v' w', Pushed w base 99 v n xs u v' w' → wpList Tryz.prog ops Q rest (a.put dst v') w') :
    wpList Tryz.prog ops Q ({ dst, op := .call { callee := .builtin .append, args := #[s, x], argTypes := #[111, 111] }, type, pos, after, guard := none } :: rest) a (w.alloc (.cells #[u] 99)) := by
  obtain ⟨i, h1, h2, h3, h4⟩ := info_term
  exact wpList_push 99 i _ 16 Tryz.underlying111 h1 h2 h3 h4 rfl (by decide) base v n xs _ hs hown hx hu hn hb h

theorem steppush_term {K : Act → World → Prop} {E : Prop} (base : Nat) (v : Value) (n : Nat) (xs : List Value) (u : Value) (hs : a.eval s = v) (hown : w.ownsRow base 99 1 v n xs)
    (hx : a.eval x = .slice (some ⟨w.heap.size, 0, none⟩) 1 1) (hu : u.oneCell' = true) (hn : n ≤ 1000000000) (hb : base ≤ w.heap.size)
    (h : ∀ v' w', Pushed w base 99 v n xs u v' w' → K (a.put dst v') w') :
    if Region.wanted { dst, op := .call { callee := .builtin .append, args := #[s, x], argTypes := #[111, 111] }, type, pos, after, guard := none } (yielded ops a.tmps) = true
      then Oper.wp Tryz.prog { dst, op := .call { callee := .builtin .append, args := #[s, x], argTypes := #[111, 111] }, type, pos, after, guard := none } a (w.alloc (.cells #[u] 99)) K Q else E := by
  obtain ⟨i, h1, h2, h3, h4⟩ := info_term
  exact step_push 99 i _ 16 Tryz.underlying111 h1 h2 h3 h4 rfl (by decide) base v n xs _ hs hown hx hu hn hb h

theorem push_int (base : Nat) (v : Value) (n : Nat) (xs : List Value) (u : Int) (hs : a.eval s = v) (hown : w.ownsRow base 3 1 v n xs)
    (hx : a.eval x = .slice (some ⟨w.heap.size, 0, none⟩) 1 1) (hn : n ≤ 1000000000) (hb : base ≤ w.heap.size)
    (h : ∀ v' w', Pushed w base 3 v n xs (.int .i64 u) v' w' → wpList Tryz.prog ops Q rest (a.put dst v') w') :
    wpList Tryz.prog ops Q ({ dst, op := .call { callee := .builtin .append, args := #[s, x], argTypes := #[43, 43] }, type, pos, after, guard := none } :: rest) a (w.alloc (.cells #[.int .i64 u] 3)) := by
  obtain ⟨i, h1, h2, h3, h4⟩ := info_int
  exact wpList_push 3 i _ 8 Tryz.underlying43 h1 h2 h3 h4 rfl (by decide) base v n xs _ hs hown hx rfl hn hb h
end

theorem owns_ext {w w' : World} {base : Nat} {e : TypeId} {s : Nat} {v : Value} {n : Nat} {xs : List Value} (h : w.ownsRow base e s v n xs) (he : Ext w w') : w'.ownsRow base e s v n xs := by
  obtain ⟨h1, h2⟩ := h
  refine ⟨h1, ?_⟩
  rcases h2 with h2 | ⟨g, cap, cur, hv, hg, hh, r⟩
  · exact Or.inl h2
  · exact Or.inr ⟨g, cap, cur, hv, hg, by rw [he.block g (Array.getElem?_eq_some_iff.1 hh).1]; exact hh, r⟩

/-- A slice that the call owns: its form, where it is not empty; its cells. -/
theorem owns_form {w : World} {base : Nat} {e : TypeId} {v : Value} {n : Nat} {xs : List Value} (h : w.ownsRow base e 1 v n xs) (hn : 0 < n) :
    ∃ g cap, v = .slice (some ⟨g, 0, none⟩) n cap ∧ base ≤ g ∧ g < w.heap.size ∧ n ≤ cap ∧ (∀ j u, xs[j]? = some u → w.cell? ⟨g, j, none⟩ = some u) ∧ (∀ j, w.frozen? ⟨g, j, none⟩ = false) := by
  obtain ⟨hl, ⟨_, h0⟩ | ⟨g, cap, cur, rfl, hb, hg, hc, hm, hs, ht⟩⟩ := h
  · omega
  · refine ⟨g, cap, rfl, hb, (Array.getElem?_eq_some_iff.1 hg).1, hc, fun j u hj => ?_, fun j => ?_⟩
    · have hjl : j < n * 1 := by rw [← hl]; exact (List.getElem?_eq_some_iff.1 hj).1
      simp only [World.cell?, hg]
      rw [← ht, List.getElem?_take] at hj
      rw [if_pos hjl] at hj
      simpa using hj
    · simp only [World.frozen?, hg]; simp

end Go.Proofs.YtholmlkjcobkdaaGreat
