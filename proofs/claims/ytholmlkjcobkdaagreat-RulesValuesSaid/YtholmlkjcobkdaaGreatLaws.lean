/- The rules are read. -/
import Derived.Test.YtholmlkjcobkdaaGreatOcc
import Derived.Test.YtholmlkjcobkdaaGreatOwn
import Derived.Deep.LoopGhost
namespace Go.Proofs.YtholmlkjcobkdaaGreat
set_option linter.all false
set_option linter.unusedSimpArgs false
set_option linter.unusedVariables false
open Go.RowKit
set_option maxRecDepth 100000

def bothT (l r : List UInt8) : Option (Tm × Tm) :=
  match Tm.parse l, Tm.parse r with
  | some s, some t => some (s, t)
  | _, _ => none
theorem bothT_l {l r : List UInt8} (h : Tm.parse l = none) : bothT l r = none := by simp [bothT, h]
theorem bothT_r {l r : List UInt8} (h : Tm.parse r = none) : bothT l r = none := by unfold bothT; rw [h]; cases Tm.parse l <;> rfl
theorem bothT_s {l r : List UInt8} {s t : Tm} (h : Tm.parse l = some s) (k : Tm.parse r = some t) : bothT l r = some (s, t) := by simp [bothT, h, k]
theorem bothT_size {l r : List UInt8} {s t : Tm} (h : bothT l r = some (s, t)) : s.size ≤ 60 ∧ t.size ≤ 60 := by
  unfold bothT at h
  cases h1 : Tm.parse l <;> cases h2 : Tm.parse r <;> simp [h1, h2] at h
  obtain ⟨rfl, rfl⟩ := h
  exact ⟨((Tm.parse_iff _ _).1 h1).2, ((Tm.parse_iff _ _).1 h2).2⟩

def Law1 (o : Option (Tm × Tm)) (N : Nat) (W : World) (e : Ending) (W' : World) : Prop :=
  (∃ s t x y, o = some (s, t) ∧ e = .returned (.tuple #[]) ∧ Bx W' N #[x, y] 144 ∧ W.grownBy W' (some N) ∧ IsT (fun b => W.heap.size ≤ b) W' s x ∧ IsT (fun b => W.heap.size ≤ b) W' t y) ∨
    (o = none ∧ e = .panicked (tr 4) ∧ Ext W W')

theorem Ext.grows' {w w' : World} (h : Ext w w') (r : Option Nat) : w.grownBy w' r := ⟨h.os, h.tape, h.output, h.size, fun k hk _ => Below.block h k hk⟩

theorem law1_done {l r : List UInt8} {N : Nat} {W w2 : World} {s t : Tm} {x y : Value} (hl : Tm.parse l = some s) (hr : Tm.parse r = some t) (hN : Bx W N #[.nilIface, .nilIface] 144) (he : Ext W w2)
    (hs : IsT (fun b => W.heap.size ≤ b) w2 s x) (ht : IsT (fun b => W.heap.size ≤ b) w2 t y) : Law1 (bothT l r) N W (.returned (.tuple #[])) ((w2.setCell ⟨N, 0, none⟩ x).setCell ⟨N, 1, none⟩ y) := by
  have hlt := hN.lt
  have hb := (((hN.ext he).set 0 x).set 1 y)
  have hg := ((grown_set w2 ⟨N, 0, none⟩ x).trans (grown_set _ ⟨N, 1, none⟩ y))
  refine .inl ⟨s, t, x, y, bothT_s hl hr, rfl, hb, (he.grows' _).trans hg, hs.grown hg ?_, ht.grown hg ?_⟩
  · intro b hb; exact ne_some (show b ≠ N by omega)
  · intro b hb; exact ne_some (show b ≠ N by omega)

theorem law1_any (l r : List UInt8) (R N : Nat) (W : World) (hR : Bx W R #[.string ⟨l.toArray⟩, .string ⟨r.toArray⟩] 94) (hN : Bx W N #[.nilIface, .nilIface] 144) :
    Calls Tryz.prog 120 #[.pointer (some ⟨R, 0, none⟩), .pointer (some ⟨N, 0, none⟩)] W (Law1 (bothT l r) N W) := by
  have HR := Lib.hid hR
  have HN := Lib.hid hN
  have c0 := hR.at 0 (y := .string ⟨l.toArray⟩) rfl
  have c1 := hR.at 1 (y := .string ⟨r.toArray⟩) rfl
  have HE0 := Lib.hid (Ext.refl W).drew
  clear hR hN
  go_enter Tryz.func120, Tryz.ntmps120
  go_region_law (first
    | (go_simp; go_at_call 69; (with_reducible refine (read_any l W.drew).mono ?_); rintro e w1 (⟨s, T, x, ho, rfl, hE, ht⟩ | ⟨ho, rfl, hE⟩); rotate_left; exact ⟨rfl, .inr ⟨bothT_l ho, rfl, hE.undrew⟩⟩; have HE1 := Lib.hid hE.undrew; have HO := Lib.hid ho; have HT := Lib.hid ht; have c0' := (HR.out.ext HE1.out).at 0 (y := .string ⟨l.toArray⟩) rfl; have c1' := (HR.out.ext HE1.out).at 1 (y := .string ⟨r.toArray⟩) rfl; clear hE ho ht)
    | (go_simp; go_at_call 69; (with_reducible refine (read_any r W.drew).mono ?_); rintro e w1 (⟨s, T, x, ho, rfl, hE, ht⟩ | ⟨ho, rfl, hE⟩); rotate_left; exact ⟨rfl, .inr ⟨bothT_r ho, rfl, hE.undrew⟩⟩; have HE1 := Lib.hid hE.undrew; have HO := Lib.hid ho; have HT := Lib.hid ht; have c0' := (HR.out.ext HE1.out).at 0 (y := .string ⟨l.toArray⟩) rfl; have c1' := (HR.out.ext HE1.out).at 1 (y := .string ⟨r.toArray⟩) rfl; clear hE ho ht)
    | (go_simp; go_at_call 69; (with_reducible refine (read_any l w1).mono ?_); rintro e w2 (⟨t, U, y, ho, rfl, hE, ht⟩ | ⟨ho, rfl, hE⟩); rotate_left; exact ⟨rfl, .inr ⟨bothT_l ho, rfl, HE1.out.trans hE⟩⟩; have HE2 := Lib.hid hE; have HO2 := Lib.hid ho; have HT2 := Lib.hid ht; have HE12 := HE1.out.trans hE; have c0'' := (HR.out.ext HE12).at 0 (y := .string ⟨l.toArray⟩) rfl; have c1'' := (HR.out.ext HE12).at 1 (y := .string ⟨r.toArray⟩) rfl; have d0 := (HN.out.ext HE12).at 0 (y := .nilIface) rfl; have d1 := (HN.out.ext HE12).at 1 (y := .nilIface) rfl; have f0 := (HN.out.ext HE12).free; clear hE ho ht HE12)
    | (go_simp; go_at_call 69; (with_reducible refine (read_any r w1).mono ?_); rintro e w2 (⟨t, U, y, ho, rfl, hE, ht⟩ | ⟨ho, rfl, hE⟩); rotate_left; exact ⟨rfl, .inr ⟨bothT_r ho, rfl, HE1.out.trans hE⟩⟩; have HE2 := Lib.hid hE; have HO2 := Lib.hid ho; have HT2 := Lib.hid ht; have HE12 := HE1.out.trans hE; have c0'' := (HR.out.ext HE12).at 0 (y := .string ⟨l.toArray⟩) rfl; have c1'' := (HR.out.ext HE12).at 1 (y := .string ⟨r.toArray⟩) rfl; have d0 := (HN.out.ext HE12).at 0 (y := .nilIface) rfl; have d1 := (HN.out.ext HE12).at 1 (y := .nilIface) rfl; have f0 := (HN.out.ext HE12).free; clear hE ho ht HE12))
  all_goals
    go_end0
    first
      | exact law1_done HO.out HO2.out HN.out (HE1.out.trans HE2.out) (HT.out.ext HE2.out) (HT2.out.mono fun b hb => Nat.le_trans HE1.out.size hb)
      | exact law1_done HO2.out HO.out HN.out (HE1.out.trans HE2.out) (HT2.out.mono fun b hb => Nat.le_trans HE1.out.size hb) (HT.out.ext HE2.out)


/-- What reading one rule comes to. -/
def Law2 (o : Option (Tm × Tm)) (N : Nat) (W : World) (e : Ending) (W' : World) : Prop :=
  (∃ s t x y, o = some (s, t) ∧ e = .returned (.int .i64 0) ∧ Bx W' N #[x, y] 144 ∧ W.grownBy W' (some N) ∧ IsT (fun b => W.heap.size ≤ b) W' s x ∧ IsT (fun b => W.heap.size ≤ b) W' t y) ∨
    (o = none ∧ e = .returned (.int .i64 4) ∧ Ext W W')

theorem law2_any (l r : List UInt8) (R N : Nat) (W : World) (hR : Bx W R #[.string ⟨l.toArray⟩, .string ⟨r.toArray⟩] 94) (hN : Bx W N #[.nilIface, .nilIface] 144) :
    Calls Tryz.prog 65 #[.func (.func 120) #[] #[.pointer (some ⟨R, 0, none⟩), .pointer (some ⟨N, 0, none⟩)]] W (Law2 (bothT l r) N W) := by
  have hlt := hN.lt
  have hg0 := Bx.new W #[.int .i64 0] 26
  refine (guard_any 120 _ (fun _ _ => by kernel_rfl) W _ (law1_any l r R N _ (hR.alloc _) (hN.alloc _)) ?_).mono ?_
  · intro e w1 hr
    have hb : Bx w1 W.heap.size #[.int .i64 0] 26 := by
      rcases hr with ⟨s, t, x, y, _, _, _, hg, _⟩ | ⟨_, _, hx⟩
      · exact hg0.grown hg (ne_some (by omega))
      · exact hg0.ext hx
    refine ⟨hb.lt, hb.cell 0, hb.free 0, ?_⟩
    rcases hr with ⟨s, t, x, y, _, h, _⟩ | ⟨_, h, _⟩
    · exact .inl h
    · exact .inr ⟨4, h⟩
  · rintro e w' ⟨e1, w1, n, hr, hg, rfl, hc⟩
    rcases hr with ⟨s, t, x, y, ho, rfl, hb, hg1, hs, ht⟩ | ⟨ho, rfl, hx⟩
    · obtain rfl : n = 0 := by
        rcases hc with ⟨_, h⟩ | h
        · exact h
        · cases h
      have hk : ∀ b, (W.alloc (.cells #[.int .i64 0] 26)).heap.size ≤ b → W.heap.size ≤ b := fun b hb => by simp at hb; omega
      have hk' : ∀ b, (W.alloc (.cells #[.int .i64 0] 26)).heap.size ≤ b → some b ≠ some W.heap.size := fun b hb => ne_some (by simp at hb; omega)
      refine .inl ⟨s, t, x, y, ho, rfl, hb.grown hg (ne_some (by omega)), ⟨hg.os.trans hg1.os, hg.tape.trans hg1.tape, hg.output.trans hg1.output, ?_, fun k hk hn => ?_⟩, (hs.grown hg hk').mono hk, (ht.grown hg hk').mono hk⟩
      · have h1 := hg1.size
        have h2 := hg.size
        simp at h1
        omega
      · have h1 := hg1.block k (by simp; omega) hn
        have h2 := hg.block k (by have := hg1.size; simp at this; omega) (ne_some (by omega))
        rw [h2, h1]
        exact Below.heap_alloc _ _ _ hk
    · obtain rfl : n = 4 := by
        rcases hc with ⟨h, _⟩ | h
        · cases h
        · exact trn_inj h
      exact .inr ⟨ho, rfl, ((Ext.new W _).trans hx).grown hg (some_le (Nat.le_refl _))⟩

theorem upon_invoke0 {o : Oper} {a : Act} {K : Act → World → Prop} {Q : Exit → Act → World → Prop} {w : World} {U : TypeId} {x : Value} {name : String} {n : Nat} (hn : Tryz.prog.types.size + Made.depth = n)
    (h : Invokes (.iface U x) name #[] w fun
      | .returned v, w'' => K (a.put o.dst v) w''
      | .panicked chain, w'' => Q (.panic chain) a w''
      | .outgrown, _ => LetsOut Q) :
    Oper.upon Tryz.prog o a K Q ((Sem.run Tryz.prog (method n U x name) w).andThen fun a w' => Sem.run Tryz.prog (callFunc a.fst #[a.snd]) w') := by
  obtain ⟨f, xs, h1, h2⟩ := h
  have e : (callMethod (.iface U x) name #[]).run Tryz.prog w = (Sem.run Tryz.prog (method n U x name) w).andThen fun a w' => Sem.run Tryz.prog (callFunc a.fst #[a.snd]) w' := by
    subst hn
    simp [callMethod, go_sem]
  rw [← e, h1]
  exact h2

theorem as_bad {S : Nat → Prop} {w : World} {t : Tm} {x : Value} (h : IsT S w t x) : ∃ c, ∀ W, (Instr.typeAssert x 99 131 true).run Tryz.prog W = .ok (.tuple #[.int .u8 c, .bool t.isV]) W := by
  cases t with
  | v i => obtain rfl : x = tV i := h; exact ⟨_, fun W => as_vv i W⟩
  | k b => obtain rfl : x = tC (kI b) (.slice none 0 0) := h; exact ⟨_, fun W => as_cv _ _ W⟩
  | u b t => obtain ⟨a, o, cap, y, rfl, -⟩ := h; exact ⟨_, fun W => as_cv _ _ W⟩
  | p b s t => obtain ⟨a, o, cap, y, z, rfl, -⟩ := h; exact ⟨_, fun W => as_cv _ _ W⟩

/-- The rules as they come in: two strings each. -/
def IsRules (w : World) (v : Value) (rs : List (List UInt8 × List UInt8)) : Prop :=
  (rs = [] ∧ ∃ a c, v = .slice a 0 c) ∨ ∃ a o cap, v = .slice (some ⟨a, o, none⟩) rs.length cap ∧ a < w.heap.size ∧ rs.length ≤ cap ∧
    ∀ j l r, rs[j]? = some (l, r) → w.cell? ⟨a, o + j * 2, none⟩ = some (.string ⟨l.toArray⟩) ∧ w.cell? ⟨a, o + j * 2 + 1, none⟩ = some (.string ⟨r.toArray⟩)

theorem IsRules.ext {w w' : World} {v : Value} {rs : List (List UInt8 × List UInt8)} (he : Ext w w') (h : IsRules w v rs) : IsRules w' v rs := by
  rcases h with h | ⟨a, o, cap, h1, h2, h3, h4⟩
  · exact .inl h
  · exact .inr ⟨a, o, cap, h1, Nat.lt_of_lt_of_le h2 he.size, h3, fun j l r hj => ⟨he.cell (h4 j l r hj).1, he.cell (h4 j l r hj).2⟩⟩

def flatL (ls : List (Tm × Tm)) : List Tm := ls.flatMap fun l => [l.1, l.2]
theorem flatL_snoc (ls : List (Tm × Tm)) (s t : Tm) : flatL (ls ++ [(s, t)]) = flatL ls ++ [s] ++ [t] := by simp [flatL]
theorem flatL_length (ls : List (Tm × Tm)) : (flatL ls).length = ls.length * 2 := by
  induction ls with
  | nil => rfl
  | cons a l ih => rw [flatL, List.flatMap_cons, List.length_append, ← flatL, ih]; simp; omega

/-- The call owns the slice v: it holds the rules. -/
def OwnL (base : Nat) (S : Nat → Prop) (w : World) (v : Value) (ls : List (Tm × Tm)) : Prop :=
  ∃ xs, w.ownsRow base 144 2 v ls.length xs ∧ AllT (fun b => S b ∧ some b ≠ v.ownBlock) w (flatL ls) xs

/-- A slice of rules that is read. -/
def IsLaws (S : Nat → Prop) (w : World) (v : Value) (ls : List (Tm × Tm)) : Prop :=
  (ls = [] ∧ ∃ a c, v = .slice a 0 c) ∨ ∃ a o cap xs, v = .slice (some ⟨a, o, none⟩) ls.length cap ∧ a < w.heap.size ∧ ls.length ≤ cap ∧ (∀ j x, xs[j]? = some x → w.cell? ⟨a, o + j, none⟩ = some x) ∧ AllT S w (flatL ls) xs

theorem info_law : ∃ i, Tryz.prog.info? 144 = some i ∧ i.zero = some (.agg #[.nilIface, .nilIface]) ∧ i.size = 2 ∧ i.bytes = 32 :=
  info_parts (by kernel_rfl : (Tryz.prog.info? 144).map (fun i => (i.zero, i.size, i.bytes)) = some (some (.agg #[.nilIface, .nilIface]), 2, 32))

theorem cell_two_new (w : World) (x y : Value) (t : TypeId) : ∀ j u, [x, y][j]? = some u → (w.alloc (.cells #[x, y] t)).cell? ((⟨w.heap.size, 0, none⟩ : Addr).add j) = some u := by
  intro j u hj
  match j, hj with
  | 0, hj => simp at hj; subst hj; simp [Addr.add]
  | 1, hj => simp at hj; subst hj; simp [Addr.add]

def Pushed2 (w : World) (base : Nat) (v : Value) (n : Nat) (xs : List Value) (x y : Value) (v' : Value) (w' : World) : Prop :=
  w'.ownsRow base 144 2 v' (n + 1) (xs ++ [x, y]) ∧ w.grownBy w' v.ownBlock ∧ ∃ g cap, v' = .slice (some ⟨g, 0, none⟩) (n + 1) cap ∧ (v.ownBlock = some g ∨ w.heap.size ≤ g) ∧ g < w'.heap.size

theorem push_law {ops : Array Oper} {Q : Exit → Act → World → Prop} {a : Act} {w : World} {rest : List Oper} {dst : Option Tmp} {type : TypeId} {pos : String} {after : Array Edge} {s x : Operand}
    (base : Nat) (v : Value) (n : Nat) (xs : List Value) (u1 u2 : Value) (hs : a.eval s = v) (hown : w.ownsRow base 144 2 v n xs)
    (hx : a.eval x = .slice (some ⟨w.heap.size, 0, none⟩) 1 1) (hu1 : u1.oneCell' = true) (hu2 : u2.oneCell' = true) (hn : n ≤ 1000000000) (hb : base ≤ w.heap.size)
    (h : ∀ v' w', Pushed2 w base v n xs u1 u2 v' w' → wpList Tryz.prog ops Q rest (a.put dst v') w') :
    wpList Tryz.prog ops Q ({ dst, op := .call { callee := .builtin .append, args := #[s, x], argTypes := #[109, 109] }, type, pos, after, guard := none } :: rest) a (w.alloc (.cells #[u1, u2] 144)) := by
  obtain ⟨i, h1, h2, h3, h4⟩ := info_law
  refine wpList_plain rfl fun _ hK => wp_append_lies (w.alloc (.cells #[u1, u2] 144)) s x 109 rfl base 144 i _ 2 32 Tryz.underlying109 h1 h2 h3 h4 rfl (by decide) v n xs hs (hown.alloc _) ⟨w.heap.size, 0, none⟩ 1 1 [u1, u2] hx rfl
    (cell_two_new _ _ _ _) (by simp [hu1, hu2]) (by decide) (by unfold maxLen; omega) ?_ (by simp; omega) _ rfl ?_
  · omega
  · intro g cap w' h1 h2 h3 h4
    refine hK _ _ (h _ w' ⟨h1, (World.grownBy_alloc w _ _).trans h2, g, cap, rfl, h3.imp id (fun e => ?_), h4⟩)
    rw [e]; simp

theorem AllT.append {S : Nat → Prop} {w : World} : ∀ {ts us : List Tm} {xs ys : List Value}, AllT S w ts xs → AllT S w us ys → AllT S w (ts ++ us) (xs ++ ys)
  | [], _, [], _, _, h => h
  | _ :: _, _, _ :: _, _, h, k => ⟨h.1, AllT.append h.2 k⟩

theorem OwnL.push {base : Nat} {S : Nat → Prop} {w w' : World} {v v' : Value} {ls : List (Tm × Tm)} {s t : Tm} {x y : Value} {xs : List Value}
    (ha : AllT (fun b => S b ∧ some b ≠ v.ownBlock) w (flatL ls) xs) (hs : IsT (fun b => S b ∧ some b ≠ v.ownBlock) w s x) (ht : IsT (fun b => S b ∧ some b ≠ v.ownBlock) w t y) (hp : Pushed2 w base v ls.length xs x y v' w') : OwnL base S w' v' (ls ++ [(s, t)]) := by
  obtain ⟨h1, h2, g, cap, rfl, hg, hlt⟩ := hp
  refine ⟨xs ++ [x, y], by simpa using h1, ?_⟩
  have hk : ∀ a o y, (S a ∧ some a ≠ v.ownBlock) → w.cell? ⟨a, o, none⟩ = some y → w'.cell? ⟨a, o, none⟩ = some y ∧ (S a ∧ some a ≠ (Value.slice (some ⟨g, 0, none⟩) (ls.length + 1) cap).ownBlock) := by
    intro a o y hS hc
    refine ⟨h2.cell (a := ⟨a, o, none⟩) hc hS.2, hS.1, ?_⟩
    simp only [Value.ownBlock, ne_eq, Option.some.injEq]
    rintro rfl
    rcases hg with hg | hg
    · exact hS.2 hg.symm
    · have := lt_of_cell hc; omega
  rw [show flatL (ls ++ [(s, t)]) = flatL ls ++ [s, t] by simp [flatL]]
  exact (ha.keep hk).append ⟨hs.keep hk, ht.keep hk, trivial⟩

theorem OwnL.lt {base : Nat} {S : Nat → Prop} {w : World} {v : Value} {ls : List (Tm × Tm)} (h : OwnL base S w v ls) : ∀ k, v.ownBlock = some k → base ≤ k ∧ k < w.heap.size := by
  obtain ⟨xs, h1, -⟩ := h; exact h1.lt

theorem owns_form2 {w : World} {base : Nat} {e : TypeId} {v : Value} {n : Nat} {xs : List Value} (h : w.ownsRow base e 2 v n xs) (hn : 0 < n) :
    ∃ g cap, v = .slice (some ⟨g, 0, none⟩) n cap ∧ base ≤ g ∧ g < w.heap.size ∧ n ≤ cap ∧ (∀ j u, xs[j]? = some u → w.cell? ⟨g, j, none⟩ = some u) := by
  obtain ⟨hl, ⟨_, h0⟩ | ⟨g, cap, cur, rfl, hb, hg, hc, hm, hs, ht⟩⟩ := h
  · omega
  · refine ⟨g, cap, rfl, hb, (Array.getElem?_eq_some_iff.1 hg).1, hc, fun j u hj => ?_⟩
    have hjl : j < n * 2 := by rw [← hl]; exact (List.getElem?_eq_some_iff.1 hj).1
    simp only [World.cell?, hg]
    rw [← ht, List.getElem?_take] at hj
    rw [if_pos hjl] at hj
    simpa using hj

theorem OwnL.read {base : Nat} {S : Nat → Prop} {w : World} {v : Value} {ls : List (Tm × Tm)} (h : OwnL base S w v ls) : IsLaws S w v ls := by
  obtain ⟨xs, h1, h2⟩ := h
  by_cases hn : 0 < ls.length
  · obtain ⟨g, cap, rfl, hb, hlt, hc, hcell⟩ := owns_form2 h1 hn
    exact .inr ⟨g, 0, cap, xs, rfl, hlt, hc, fun j x hj => by simpa using hcell j x hj, h2.mono fun _ h => h.1⟩
  · obtain ⟨_, ⟨rfl, h0⟩ | ⟨g, cap, cur, rfl, -⟩⟩ := h1
    · exact .inl ⟨List.length_eq_zero_iff.1 h0, none, 0, rfl⟩
    · have h0 : ls.length = 0 := by omega
      exact .inl ⟨List.length_eq_zero_iff.1 h0, _, cap, by rw [h0]⟩

theorem OwnL.ext {base : Nat} {S : Nat → Prop} {w w' : World} {v : Value} {ls : List (Tm × Tm)} (h : OwnL base S w v ls) (he : Ext w w') : OwnL base S w' v ls := by
  obtain ⟨xs, h1, h2⟩ := h
  exact ⟨xs, owns_ext h1 he, h2.ext he⟩

theorem IsLaws.ext {S : Nat → Prop} {w w' : World} {v : Value} {ls : List (Tm × Tm)} (he : Ext w w') (h : IsLaws S w v ls) : IsLaws S w' v ls := by
  rcases h with h | ⟨a, o, cap, xs, h1, h2, h3, h4, h5⟩
  · exact .inl h
  · exact .inr ⟨a, o, cap, xs, h1, Nat.lt_of_lt_of_le h2 he.size, h3, fun j x hj => he.cell (h4 j x hj), h5.ext he⟩

def okLaw (p : List UInt8 × List UInt8) : Option (Tm × Tm) :=
  (bothT p.1 p.2).bind fun q => if q.1.isV = false ∧ q.1.size ≤ 12 ∧ q.2.size ≤ 12 ∧ ∀ i, Tm.v i ∈ q.2.subs → Tm.v i ∈ q.1.subs then some q else none
def okLaws (rs : List (List UInt8 × List UInt8)) : Option (List (Tm × Tm)) := if rs.length ≤ 6 then rs.mapM okLaw else none

theorem mapM_none {α β : Type} (f : α → Option β) : ∀ (l : List α) (d : Nat) (q : α), l[d]? = some q → f q = none → l.mapM f = none
  | [], _, _, h, _ => by simp at h
  | a :: l, 0, q, h, hq => by simp at h; subst h; simp [List.mapM_cons, hq]
  | a :: l, d + 1, q, h, hq => by
    simp at h
    rw [List.mapM_cons, mapM_none f l d q h hq]
    cases f a <;> rfl

theorem mapM_snoc {α β : Type} (f : α → Option β) : ∀ (l : List α) (d : Nat) (q : α) (b : β) (ls : List β), l[d]? = some q → f q = some b → (l.take d).mapM f = some ls → (l.take (d + 1)).mapM f = some (ls ++ [b])
  | [], _, _, _, _, h, _, _ => by simp at h
  | a :: l, 0, q, b, ls, h, hq, hm => by
    simp at h hm; subst h; subst hm; simp [List.mapM_cons, hq]
  | a :: l, d + 1, q, b, ls, h, hq, hm => by
    simp only [List.getElem?_cons_succ] at h
    rw [List.take_succ_cons, List.mapM_cons] at hm ⊢
    cases ha : f a with
    | none => rw [ha] at hm; cases hm
    | some a' =>
      rw [ha] at hm
      cases hm' : (l.take d).mapM f with
      | none => rw [hm'] at hm; cases hm
      | some ls' =>
        rw [hm'] at hm
        cases hm
        rw [mapM_snoc f l d q b ls' h hq hm']
        rfl

theorem mapM_length {α β : Type} (f : α → Option β) : ∀ (l : List α) (ls : List β), l.mapM f = some ls → ls.length = l.length
  | [], ls, h => by simp at h; subst h; rfl
  | a :: l, ls, h => by
    rw [List.mapM_cons] at h
    cases ha : f a with
    | none => rw [ha] at h; cases h
    | some a' =>
      rw [ha] at h
      cases hm : l.mapM f with
      | none => rw [hm] at h; cases h
      | some ls' => rw [hm] at h; cases h; simp [mapM_length f l ls' hm]

theorem okLaws_none {rs : List (List UInt8 × List UInt8)} {d : Nat} {q : List UInt8 × List UInt8} (h : rs[d]? = some q) (hq : okLaw q = none) : okLaws rs = none := by
  unfold okLaws
  rw [mapM_none okLaw rs d q h hq]
  simp

theorem okLaw_no {l r : List UInt8} {s t : Tm} (h : bothT l r = some (s, t)) (hn : ¬ (s.isV = false ∧ s.size ≤ 12 ∧ t.size ≤ 12 ∧ ∀ i, Tm.v i ∈ t.subs → Tm.v i ∈ s.subs)) : okLaw (l, r) = none := by
  simp only [okLaw, h, Option.bind_some, if_neg hn]
theorem okLaw_yes {l r : List UInt8} {s t : Tm} (h : bothT l r = some (s, t)) (hn : s.isV = false ∧ s.size ≤ 12 ∧ t.size ≤ 12 ∧ ∀ i, Tm.v i ∈ t.subs → Tm.v i ∈ s.subs) : okLaw (l, r) = some (s, t) := by
  simp only [okLaw, h, Option.bind_some, if_pos hn]

/-- What reading the rules comes to. -/
def ReadsLaws (w : World) (o : Option (List (Tm × Tm))) (e : Ending) (w' : World) : Prop :=
  (∃ ls v, o = some ls ∧ e = .returned v ∧ Ext w w' ∧ IsLaws (fun b => w.heap.size ≤ b) w' v ls) ∨ (o = none ∧ e = .panicked (tr 2) ∧ Ext w w')

set_option maxHeartbeats 8000000 in
theorem newLaws_any (rs : List (List UInt8 × List UInt8)) (v : Value) (w : World) (hr : IsRules w v rs) :
    Calls Tryz.prog 77 #[v] w (ReadsLaws w (okLaws rs)) := by
  obtain ⟨p, c, hv⟩ : ∃ p c, v = .slice p rs.length c := by
    rcases hr with ⟨rfl, a, c, rfl⟩ | ⟨a, o, c, rfl, -⟩
    · exact ⟨_, _, rfl⟩
    · exact ⟨_, _, rfl⟩
  have hmf : ∀ (fn : Fn) (first cap : Array Value) (w : World), (Instr.makeFunc fn first cap).run Tryz.prog w = .ok (.func fn first cap) w := fun _ _ _ _ => rfl
  have hen : ∀ xs W, (callFunc 120 xs).run Tryz.prog W = .ok (.enter 120 xs) W := fun _ _ => by kernel_rfl
  have HEN := Lib.hid hen
  have HR := Lib.hid hr
  clear hen hr
  subst hv
  by_cases h6 : rs.length ≤ 6
  · go_enter Tryz.func77, Tryz.ntmps77
    go_wp2_with fail
    rw [decide_eq_true (show (rs.length : Int) ≤ 6 by omega)]
    ((with_reducible refine (demand_yes _ _).mono ?_); rintro e w2 ⟨rfl, rfl⟩)
    go_wp2_with fail
    go_loopg [3, 16] rs.length (fun k v i wr => ∃ d ls, d + k = rs.length ∧ i = .int .i64 d ∧ (rs.take d).mapM okLaw = some ls ∧ OwnL w.heap.size (fun b => w.heap.size ≤ b) wr v ls ∧ Ext w wr)
    case atStart => exact ⟨0, [], by simp, rfl, rfl, ⟨[], World.ownsRow_nil _ _ _ _, trivial⟩, Ext.refl _⟩
    case round =>
      obtain ⟨d, ls, hd, rfl, hm, hown, hE⟩ := hrel
      have HM := Lib.hid hm
      have HOwn := Lib.hid hown
      have HE := Lib.hid hE
      clear hm hown hE
      cases gk with
      | zero =>
        obtain rfl : d = rs.length := by omega
        go_wp2_with fail
        go_ret
        have hm := HM.out
        rw [List.take_length] at hm
        exact .inl ⟨ls, _, by rw [okLaws, if_pos h6, hm], rfl, HE.out, HOwn.out.read⟩
      | succ k =>
        have hdl : d < rs.length := by omega
        have hdl' : (d : Int) < (rs.length : Int) := by omega
        obtain ⟨⟨l, r⟩, hlr⟩ : ∃ q, rs[d]? = some q := ⟨_, List.getElem?_eq_getElem hdl⟩
        obtain ⟨a, o, ha, hcap, hc0, hc1⟩ : ∃ a o, p = some ⟨a, o, none⟩ ∧ rs.length ≤ c ∧ wr.cell? ⟨a, o + d * 2, none⟩ = some (.string ⟨l.toArray⟩) ∧ wr.cell? ⟨a, o + d * 2 + 1, none⟩ = some (.string ⟨r.toArray⟩) := by
          rcases HR.out with ⟨h0, -⟩ | ⟨a, o, cap, h1, h2, h3, h4⟩
          · rw [h0] at hdl; simp at hdl
          · cases h1; exact ⟨a, o, rfl, h3, HE.out.cell (h4 d l r hlr).1, HE.out.cell (h4 d l r hlr).2⟩
        subst ha
        have HLR := Lib.hid hlr
        clear hlr
        have hb1 : Bx ((wr.alloc (.cells #[.string ⟨l.toArray⟩, .string ⟨r.toArray⟩] 94)).alloc (.cells #[.nilIface, .nilIface] 144)) wr.heap.size #[.string ⟨l.toArray⟩, .string ⟨r.toArray⟩] 94 := (Bx.new wr _ _).alloc _
        have hb2 : Bx ((wr.alloc (.cells #[.string ⟨l.toArray⟩, .string ⟨r.toArray⟩] 94)).alloc (.cells #[.nilIface, .nilIface] 144)) (wr.heap.size + 1) #[.nilIface, .nilIface] 144 := by
          have h := Bx.new (wr.alloc (.cells #[.string ⟨l.toArray⟩, .string ⟨r.toArray⟩] 94)) #[.nilIface, .nilIface] 144
          rwa [World.size_alloc] at h
        have hE2 : Ext wr ((wr.alloc (.cells #[.string ⟨l.toArray⟩, .string ⟨r.toArray⟩] 94)).alloc (.cells #[.nilIface, .nilIface] 144)) := (Ext.new _ _).alloc _
        have h2 := law2_any l r _ _ _ hb1 hb2
        have HLW := Lib.hid h2
        have HE2 := Lib.hid hE2
        clear h2 hb1 hb2 hE2
        go_wp2_with (refine HLW.out.mono ?_; clear HLW; rintro e w3 (⟨s, t, x, y, ho, rfl, hbx, hg, hs, ht⟩ | ⟨ho, rfl, hx⟩))
        · have HO := Lib.hid ho
          have HB := Lib.hid hbx
          have HG := Lib.hid hg
          have HS := Lib.hid hs
          have HT := Lib.hid ht
          obtain ⟨U, x, rfl⟩ := hs.iface
          obtain ⟨V, y, rfl⟩ := ht.iface
          obtain ⟨cb, hab⟩ := as_bad hs
          have d0 := hbx.at 0 (y := .iface U x) rfl
          have d1 := hbx.at 1 (y := .iface V y) rfl
          clear ho hbx hg hs ht
          have HE3 := Lib.hid (HE2.out.grown HG.out (some_le (Nat.le_succ _)))
          cases hv : s.isV with
          | true =>
            rw [hv] at hab
            go_wp2_with ((with_reducible refine (demand_yes _ _).mono ?_); rintro e w2 ⟨rfl, rfl⟩)
            ((with_reducible refine (demand_no _ _).mono ?_); rintro e w2 ⟨rfl, rfl⟩)
            exact ⟨rfl, .inr ⟨okLaws_none HLR.out (okLaw_no HO.out fun h => by rw [hv] at h; cases h.1), rfl, HE.out.trans HE3.out⟩⟩
          | false =>
          rw [hv] at hab
          have hsz := (bothT_size HO.out)
          have H1 := Lib.hid (size_inv s _ w3 (by omega) HS.out)
          have H2 := Lib.hid (size_inv t _ w3 (by omega) HT.out)
          by_cases hs12 : s.size ≤ 12
          rotate_left
          · have hd1 : (decide ((s.size : Int) ≤ 12)) = false := decide_eq_false (by omega)
            go_wp2_with (first
              | ((with_reducible refine (demand_yes _ _).mono ?_); rintro e w4 ⟨rfl, rfl⟩)
              | (refine upon_invoke0 (by kernel_rfl) ?_; refine (H1.out _ (Ext.refl _)).mono ?_; clear H1; rintro e w4 ⟨rfl, hE4⟩; have HE4 := Lib.hid hE4; have g1 := (HB.out.ext hE4).at 1 (y := .iface V y) rfl; clear hE4)
              | (refine upon_invoke0 (by kernel_rfl) ?_; refine (H2.out _ HE4.out).mono ?_; clear H2; rintro e w5 ⟨rfl, hE5⟩; have HE5 := Lib.hid (HE4.out.trans hE5); clear hE5))
            ((with_reducible refine (demand_no _ _).mono ?_); rintro e w2 ⟨rfl, rfl⟩)
            exact ⟨rfl, .inr ⟨okLaws_none HLR.out (okLaw_no HO.out fun h => hs12 h.2.1), rfl, (HE.out.trans HE3.out).trans HE4.out⟩⟩
          by_cases ht12 : t.size ≤ 12
          rotate_left
          · have hd1 : (decide ((s.size : Int) ≤ 12)) = true := decide_eq_true (by omega)
            have hd2 : (decide ((t.size : Int) ≤ 12)) = false := decide_eq_false (by omega)
            go_wp2_with (first
              | ((with_reducible refine (demand_yes _ _).mono ?_); rintro e w4 ⟨rfl, rfl⟩)
              | (refine upon_invoke0 (by kernel_rfl) ?_; refine (H1.out _ (Ext.refl _)).mono ?_; clear H1; rintro e w4 ⟨rfl, hE4⟩; have HE4 := Lib.hid hE4; have g1 := (HB.out.ext hE4).at 1 (y := .iface V y) rfl; clear hE4)
              | (refine upon_invoke0 (by kernel_rfl) ?_; refine (H2.out _ HE4.out).mono ?_; clear H2; rintro e w5 ⟨rfl, hE5⟩; have HE5 := Lib.hid (HE4.out.trans hE5); clear hE5))
            ((with_reducible refine (demand_no _ _).mono ?_); rintro e w2 ⟨rfl, rfl⟩)
            exact ⟨rfl, .inr ⟨okLaws_none HLR.out (okLaw_no HO.out fun h => ht12 h.2.2.1), rfl, (HE.out.trans HE3.out).trans HE5.out⟩⟩
          have hd1 : (decide ((s.size : Int) ≤ 12)) = true := decide_eq_true (by omega)
          have hd2 : (decide ((t.size : Int) ≤ 12)) = true := decide_eq_true (by omega)
          go_wp2_with (first
              | ((with_reducible refine (demand_yes _ _).mono ?_); rintro e w4 ⟨rfl, rfl⟩)
              | (refine upon_invoke0 (by kernel_rfl) ?_; refine (H1.out _ (Ext.refl _)).mono ?_; clear H1; rintro e w4 ⟨rfl, hE4⟩; have HE4 := Lib.hid hE4; have g1 := (HB.out.ext hE4).at 1 (y := .iface V y) rfl; clear hE4)
              | (refine upon_invoke0 (by kernel_rfl) ?_; refine (H2.out _ HE4.out).mono ?_; clear H2; rintro e w5 ⟨rfl, hE5⟩; have HE5 := Lib.hid (HE4.out.trans hE5); clear hE5))
          clear hab d0 d1 hd1 hd2 HE4 g1 hc0 hc1
          obtain ⟨w0, rfl⟩ : ∃ w0 : World, w0 = wr := ⟨_, rfl⟩
          go_loopg [9] 3 (fun k c wl => ∃ j : Nat, j + k = 3 ∧ c = .int .u8 (120 + (j : Int)) ∧ Ext w3 wl ∧ ∀ i : Fin 3, i.val < j → Tm.v i ∈ t.subs → Tm.v i ∈ s.subs)
          case atStart => exact ⟨0, rfl, rfl, HE5.out, fun i hi => absurd hi (Nat.not_lt_zero _)⟩
          case round =>
            obtain ⟨j, hj, rfl, hE5, hall⟩ := hrel
            have HE6 := Lib.hid hE5
            have HAll := Lib.hid hall
            have HB6 := HB.out.ext hE5
            have e0 := HB6.at 0 (y := .iface U x) rfl
            have e1 := HB6.at 1 (y := .iface V y) rfl
            clear hE5 hall HB6
            cases gk with
            | zero =>
              obtain rfl : j = 3 := by omega
              obtain ⟨xs, hown, hat⟩ := HOwn.out
              have hE03 : Ext w0 wr := HE3.out.trans HE6.out
              have hown' := owns_ext hown hE03
              have HAT := Lib.hid (hat.ext hE03)
              have HOn := Lib.hid hown'
              have hbase : w.heap.size ≤ wr.heap.size := Nat.le_trans HE.out.size hE03.size
              have hn : ls.length ≤ 1000000000 := by
                have h := mapM_length _ _ _ HM.out
                simp at h
                omega
              clear hown hat hown' hE03
              go_wp2_with ((refine push_law w.heap.size u3 ls.length xs (.iface U x) (.iface V y) (by rfl) HOn.out (by rfl) rfl rfl hn hbase ?_); rintro v7 w7 ⟨h71, h72, g, cap, rfl, hgl, hgs⟩)
              have HP : Hid (Pushed2 wr w.heap.size u3 ls.length xs (.iface U x) (.iface V y) (.slice (some ⟨g, 0, none⟩) (ls.length + 1) cap) w7) := Lib.hid ⟨h71, h72, g, cap, rfl, hgl, hgs⟩
              clear h71 h72 hgl hgs
              have hlt := HOwn.out.lt
              have hsep : ∀ b, ((w0.alloc (.cells #[.string ⟨l.toArray⟩, .string ⟨r.toArray⟩] 94)).alloc (.cells #[.nilIface, .nilIface] 144)).heap.size ≤ b → w.heap.size ≤ b ∧ some b ≠ u3.ownBlock := by
                intro b hb
                simp at hb
                have h0 := HE.out.size
                refine ⟨by omega, fun e => ?_⟩
                have := (hlt b e.symm).2
                omega
              have hall := HAll.out
              go_roundg k
              case measure => omega
              case rel =>
                refine ⟨d + 1, ls ++ [(s, t)], by omega, congrArg (Value.int .i64) (by omega), ?_, ?_, ?_⟩
                · exact mapM_snoc _ _ _ _ _ _ HLR.out (okLaw_yes HO.out ⟨hv, hs12, ht12, fun i => hall i i.isLt⟩) HM.out
                · exact OwnL.push HAT.out ((HS.out.mono hsep).ext HE6.out) ((HT.out.mono hsep).ext HE6.out) HP.out
                · exact Ext.grown ((HE.out.trans HE3.out).trans HE6.out) HP.out.2.1 (fun b e => (hlt b e).1)
            | succ m =>
              have hj3 : j < 3 := by omega
              have hle : (decide (120 + (j : Int) ≤ 122)) = true := decide_eq_true (by omega)
              have ho1 : Calls Tryz.prog 121 #[.int .u8 (120 + (j : Int)), .iface V y] wr _ := occurs_any ⟨j, hj3⟩ t (.iface V y) wr (by omega) ((HT.out.ext HE6.out).mono fun _ _ => trivial)
              have ho2 : ∀ w6, Ext wr w6 → Calls Tryz.prog 121 #[.int .u8 (120 + (j : Int)), .iface U x] w6 _ := fun w6 he => occurs_any ⟨j, hj3⟩ s (.iface U x) w6 (by omega) ((HS.out.ext (HE6.out.trans he)).mono fun _ _ => trivial)
              have hstep : (Tm.v ⟨j, hj3⟩ ∈ t.subs → Tm.v ⟨j, hj3⟩ ∈ s.subs) → ∀ i : Fin 3, i.val < j + 1 → Tm.v i ∈ t.subs → Tm.v i ∈ s.subs := by
                intro h i hi
                rcases Nat.lt_succ_iff_lt_or_eq.1 hi with h1 | h1
                · exact HAll.out i h1
                · obtain rfl : i = ⟨j, hj3⟩ := Fin.ext h1
                  exact h
              have HStep := Lib.hid hstep
              clear hstep
              by_cases hin : Tm.v ⟨j, hj3⟩ ∈ t.subs
              · rw [decide_eq_true hin] at ho1
                by_cases his : Tm.v ⟨j, hj3⟩ ∈ s.subs
                · rw [decide_eq_true his] at ho2
                  have HO1 := Lib.hid ho1
                  have HO2 := Lib.hid ho2
                  have HIs := Lib.hid his
                  clear ho1 ho2 hin his
                  go_wp2_with (first
                    | ((with_reducible refine (demand_yes _ _).mono ?_); rintro e w7 ⟨rfl, rfl⟩)
                    | ((with_reducible refine HO1.out.mono ?_); clear HO1; rintro e w6 ⟨rfl, hE6⟩; have HE7 := Lib.hid hE6; have e0' := (HB.out.ext (HE6.out.trans hE6)).at 0 (y := .iface U x) rfl; clear hE6)
                    | ((with_reducible refine (HO2.out _ HE7.out).mono ?_); clear HO2; rintro e w8 ⟨rfl, hE8⟩; have HE8 := Lib.hid (HE7.out.trans hE8); clear hE8))
                  go_roundg m
                  case measure => omega
                  case rel => exact ⟨j + 1, by omega, congrArg (Value.int .u8) (by omega), HE6.out.trans HE8.out, HStep.out fun _ => HIs.out⟩
                · rw [decide_eq_false his] at ho2
                  have HO1 := Lib.hid ho1
                  have HO2 := Lib.hid ho2
                  have HIn := Lib.hid hin
                  have HIs := Lib.hid his
                  clear ho1 ho2 hin his
                  go_wp2_with (first
                    | ((with_reducible refine (demand_no _ _).mono ?_); rintro e w7 ⟨rfl, rfl⟩)
                    | ((with_reducible refine HO1.out.mono ?_); clear HO1; rintro e w6 ⟨rfl, hE6⟩; have HE7 := Lib.hid hE6; have e0' := (HB.out.ext (HE6.out.trans hE6)).at 0 (y := .iface U x) rfl; clear hE6)
                    | ((with_reducible refine (HO2.out _ HE7.out).mono ?_); clear HO2; rintro e w8 ⟨rfl, hE8⟩; have HE8 := Lib.hid (HE7.out.trans hE8); clear hE8))
                  exact ⟨rfl, .inr ⟨okLaws_none HLR.out (okLaw_no HO.out fun h => HIs.out (h.2.2.2 _ HIn.out)), rfl, (HE.out.trans HE3.out).trans (HE6.out.trans HE8.out)⟩⟩
              · rw [decide_eq_false hin] at ho1
                have HO1 := Lib.hid ho1
                have HIn := Lib.hid hin
                clear ho1 ho2 hin
                go_wp2_with (first
                  | ((with_reducible refine (demand_yes _ _).mono ?_); rintro e w7 ⟨rfl, rfl⟩)
                  | ((with_reducible refine HO1.out.mono ?_); rintro e w6 ⟨rfl, hE6⟩; have HE7 := Lib.hid (HE6.out.trans hE6); clear hE6))
                go_roundg m
                case measure => omega
                case rel => exact ⟨j + 1, by omega, congrArg (Value.int .u8) (by omega), HE7.out, HStep.out fun h => absurd h HIn.out⟩
        · go_wp2_with ((with_reducible refine (demand_no _ _).mono ?_); rintro e w2 ⟨rfl, rfl⟩)
          exact ⟨rfl, .inr ⟨okLaws_none HLR.out (by simp [okLaw, ho]), rfl, HE.out.trans (HE2.out.trans hx)⟩⟩
  · go_enter Tryz.func77, Tryz.ntmps77
    go_wp2_with fail
    rw [decide_eq_false (show ¬ (rs.length : Int) ≤ 6 by omega)]
    ((with_reducible refine (demand_no _ _).mono ?_); rintro e w2 ⟨rfl, rfl⟩)
    exact ⟨rfl, .inr ⟨by simp [okLaws, h6], rfl, Ext.refl _⟩⟩
end Go.Proofs.YtholmlkjcobkdaaGreat
