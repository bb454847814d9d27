/- How a string is read as a term. -/
import Derived.Test.YtholmlkjcobkdaaGreatGuard
import Derived.Test.YtholmlkjcobkdaaGreatOwn
import Derived.Deep.RegionLaw
import Derived.Deep.DeepCutAuto
import Derived.Deep.CutBlock
import Derived.Maps.Range
namespace Go.Proofs.YtholmlkjcobkdaaGreat
set_option linter.all false
set_option linter.unusedSimpArgs false
set_option linter.unusedVariables false
open Go.RowKit
set_option maxRecDepth 100000

/-- The reader at block R: what is left of the string, the number of symbols and variables. -/
def Rd (w : World) (R : Nat) (l : List UInt8) (n : Nat) : Prop := w.heap[R]? = some (.cells #[.string ⟨l.toArray⟩, .int .i64 n] 160 (0, 0))

theorem Rd.c0 {w : World} {R : Nat} {l : List UInt8} {n : Nat} (h : Rd w R l n) : w.cell? ⟨R, 0, none⟩ = some (.string ⟨l.toArray⟩) := by simp [World.cell?, show _ = _ from h]
theorem Rd.c1 {w : World} {R : Nat} {l : List UInt8} {n : Nat} (h : Rd w R l n) : w.cell? ⟨R, 1, none⟩ = some (.int .i64 n) := by simp [World.cell?, show _ = _ from h]
theorem Rd.f {w : World} {R : Nat} {l : List UInt8} {n : Nat} (h : Rd w R l n) (o : Nat) : w.frozen? ⟨R, o, none⟩ = false := by simp [World.frozen?, show _ = _ from h]
theorem Rd.lt {w : World} {R : Nat} {l : List UInt8} {n : Nat} (h : Rd w R l n) : R < w.heap.size := (Array.getElem?_eq_some_iff.1 h).1
theorem Rd.set0 {w : World} {R : Nat} {l : List UInt8} {n : Nat} (h : Rd w R l n) (m : List UInt8) : Rd (w.setCell ⟨R, 0, none⟩ (.string ⟨m.toArray⟩)) R m n := by
  unfold Rd at *; simp [World.setCell, Array.getElem?_modify, h]
theorem Rd.set1 {w : World} {R : Nat} {l : List UInt8} {n : Nat} (h : Rd w R l n) (m : Nat) : Rd (w.setCell ⟨R, 1, none⟩ (.int .i64 m)) R l m := by
  unfold Rd at *; simp [World.setCell, Array.getElem?_modify, h]

theorem Rd.alloc {w : World} {R : Nat} {l : List UInt8} {n : Nat} (h : Rd w R l n) (o : Obj) : Rd (w.alloc o) R l n := by
  unfold Rd at *; rw [Below.heap_alloc _ _ _ (Array.getElem?_eq_some_iff.1 h).1]; exact h
theorem Rd.grown {w w' : World} {R : Nat} {l : List UInt8} {n : Nat} (h : Rd w R l n) {r : Option Nat} (hg : w.grownBy w' r) (hr : some R ≠ r) : Rd w' R l n := by
  unfold Rd at *; rw [hg.block R (Array.getElem?_eq_some_iff.1 h).1 hr]; exact h

/-- The byte that comes next, 0 where there is none. -/
def hd : List UInt8 → Int
  | [] => 0
  | c :: _ => c.toNat

theorem extract_tail (c : UInt8) (l : List UInt8) : ({ data := (c :: l).toArray } : ByteArray).extract 1 (l.length + 1) = { data := l.toArray } := by
  apply ByteArray.ext; simp

def Nexts (R : Nat) (w : World) (l : List UInt8) (n : Nat) (e : Ending) (w' : World) : Prop := e = .returned (.int .u8 (hd l)) ∧ Rd w' R l.tail n ∧ w.grownBy w' (some R)

theorem next_any (R : Nat) (l : List UInt8) (n : Nat) (w : World) (h : Rd w R l n) : Calls Tryz.prog 144 #[.pointer (some ⟨R, 0, none⟩)] w (Nexts R w l n) := by
  have h0 := h.c0
  have hf := h.f 0
  have H := Lib.hid h
  clear h
  cases l with
  | nil =>
    go_enter Tryz.func144, Tryz.ntmps144
    go_wp2
    go_ret
    exact ⟨rfl, H.out, World.grownBy.refl _ _⟩
  | cons c l =>
    have hx := extract_tail c l
    go_enter Tryz.func144, Tryz.ntmps144
    go_wp2
    go_ret
    exact ⟨rfl, H.out.set0 l, grown_set _ _ _⟩

def Wants (R : Nat) (w : World) (l : List UInt8) (n : Nat) (c : Int) (e : Ending) (w' : World) : Prop :=
  (if hd l = c then e = .returned (.tuple #[]) else e = .panicked (tr 4)) ∧ Rd w' R l.tail n ∧ w.grownBy w' (some R)

theorem want_any (R : Nat) (l : List UInt8) (n : Nat) (c : Int) (w : World) (h : Rd w R l n) : Calls Tryz.prog 145 #[.pointer (some ⟨R, 0, none⟩), .int .u8 c] w (Wants R w l n c) := by
  have H := Lib.hid h
  clear h
  go_enter Tryz.func145, Tryz.ntmps145
  go_wp2_with fail
  refine (next_any R l n _ H.out).mono ?_
  rintro e w' ⟨rfl, h1, h2⟩
  have H1 := Lib.hid h1
  have H2 := Lib.hid h2
  clear h1 h2
  go_wp2_with fail
  refine (demand_any _ _ _).mono ?_
  rintro e w'' ⟨rfl, rfl⟩
  by_cases hc : hd l = c
  · have hb : (hd l == c) = true := by simpa using hc
    simp only [hb, if_true]
    go_wp2
    go_end0
    exact ⟨by rw [if_pos hc], H1.out, H2.out⟩
  · have hb : (hd l == c) = false := by simpa using hc
    simp only [hb]
    go_wp2
    exact ⟨rfl, by rw [if_neg hc], H1.out, H2.out⟩

theorem parts_any (c : Int) (k : Nat) (h0 : 97 ≤ c) (h1 : c ≤ 102) (hk : (c - 97) / 2 = (k : Int)) (w : World) : Calls Tryz.prog 114 #[.int .u8 c] w fun e w' => e = .returned (.int .i64 k) ∧ w = w' := by
  have HK := Lib.hid hk
  clear hk
  go_enter Tryz.func114, Tryz.ntmps114
  go_wp2
  go_ret
  exact ⟨by rw [HK.out]; rfl, rfl⟩

/-- What reading a term comes to. -/
def Reads (R : Nat) (w : World) (o : Option (Tm × List UInt8 × Nat)) (e : Ending) (w' : World) : Prop :=
  w.grownBy w' (some R) ∧
  match o with
  | some (t, l, n) => (∃ x, e = .returned x ∧ IsT (fun b => w.heap.size ≤ b) w' t x) ∧ Rd w' R l n
  | none => e = .panicked (tr 4)

theorem term_full (R : Nat) (l : List UInt8) (n : Nat) (w : World) (h : Rd w R l n) (hn : 60 ≤ n) (hn2 : n ≤ 100) : Calls Tryz.prog 119 #[.pointer (some ⟨R, 0, none⟩)] w (Reads R w none) := by
  have H := Lib.hid h
  clear h
  go_enter Tryz.func119, Tryz.ntmps119
  go_wp2_with fail
  refine (next_any R l n _ H.out).mono ?_
  rintro e w1 ⟨rfl, h1, h2⟩
  have c1 := h1.c1
  have f1 := h1.f 1
  have hR := h1.lt
  have H1 := Lib.hid (h1.set1 (n + 1))
  have H2 := Lib.hid h2
  clear h1 h2
  have hd1 : decide ((n : Int) + 1 ≤ 60) = false := by simp; omega
  go_wp2_with fail
  refine (demand_no _ _).mono ?_
  rintro e w2 ⟨rfl, rfl⟩
  exact ⟨rfl, H2.out.trans (grown_set _ ⟨R, 1, none⟩ _), rfl⟩

theorem term_var (R : Nat) (l : List UInt8) (n : Nat) (w : World) (h : Rd w R l n) (hn : n < 60) (h0 : 120 ≤ hd l) (h1 : hd l ≤ 122) (i : Fin 3) (hi : hd l = vI i) :
    Calls Tryz.prog 119 #[.pointer (some ⟨R, 0, none⟩)] w (Reads R w (some (.v i, l.tail, n + 1))) := by
  have HI := Lib.hid hi
  clear hi
  have b1 : decide ((120 : Int) ≤ hd l) = true := by simpa using h0
  have H := Lib.hid h
  clear h
  go_enter Tryz.func119, Tryz.ntmps119
  go_wp2_with fail
  refine (next_any R l n _ H.out).mono ?_
  rintro e w1 ⟨rfl, h1, h2⟩
  have c1 := h1.c1
  have f1 := h1.f 1
  have hR := h1.lt
  have H1 : Hid (Rd (w1.setCell ⟨R, 1, none⟩ (.int .i64 ((n : Int) + 1))) R l.tail (n + 1)) := Lib.hid (h1.set1 (n + 1))
  have H2 := Lib.hid (h2.trans (grown_set w1 ⟨R, 1, none⟩ (.int .i64 ((n : Int) + 1))))
  clear h1 h2
  have hd1 : decide ((n : Int) + 1 ≤ 60) = true := by simp; omega
  go_wp2_with fail
  refine (demand_yes _ _).mono ?_
  rintro e w2 ⟨rfl, rfl⟩
  clear c1 f1 hR
  generalize w1.setCell ⟨R, 1, none⟩ (.int .i64 ((n : Int) + 1)) = w2 at H1 H2 ⊢
  clear w1
  go_wp2
  go_ret
  exact ⟨H2.out, ⟨_, rfl, by show Value.iface _ (.int .u8 (hd l)) = _; rw [HI.out]; rfl⟩, H1.out⟩

theorem term_bad (R : Nat) (l : List UInt8) (n : Nat) (w : World) (h : Rd w R l n) (hn : n < 60) (h0 : hd l < 97 ∨ (102 < hd l ∧ hd l < 120) ∨ 122 < hd l) :
    Calls Tryz.prog 119 #[.pointer (some ⟨R, 0, none⟩)] w (Reads R w none) := by
  have g : (decide ((120 : Int) ≤ hd l) = false ∧ decide ((97 : Int) ≤ hd l) = false) ∨ (decide ((120 : Int) ≤ hd l) = false ∧ decide ((97 : Int) ≤ hd l) = true ∧ decide (hd l ≤ 102) = false) ∨
      (decide ((120 : Int) ≤ hd l) = true ∧ decide (hd l ≤ 122) = false ∧ decide ((97 : Int) ≤ hd l) = true ∧ decide (hd l ≤ 102) = false) := by
    rcases h0 with hc | ⟨hc, hc2⟩ | hc
    · left; simp; omega
    · right; left; simp; omega
    · right; right; simp; omega
  clear h0
  rcases g with ⟨g1, g3⟩ | ⟨g1, g3, g4⟩ | ⟨g1, g2, g3, g4⟩
  all_goals
    have H := Lib.hid h
    clear h
    go_enter Tryz.func119, Tryz.ntmps119
    go_wp2_with fail
    refine (next_any R l n _ H.out).mono ?_
    rintro e w1 ⟨rfl, h1, h2⟩
    have c1 := h1.c1
    have f1 := h1.f 1
    have hR := h1.lt
    have H1 := Lib.hid (h1.set1 (n + 1))
    have H2 := Lib.hid (h2.trans (grown_set w1 ⟨R, 1, none⟩ (.int .i64 ((n + 1 : Nat) : Int))))
    clear h1 h2
    have hd1 : decide ((n : Int) + 1 ≤ 60) = true := by simp; omega
    go_wp2_with fail
    refine (demand_yes _ _).mono ?_
    rintro e w2 ⟨rfl, rfl⟩
    go_wp2_with fail
    ((with_reducible refine (demand_no _ _).mono ?_); rintro e w3 ⟨rfl, rfl⟩)
    exact ⟨rfl, H2.out, rfl⟩

theorem term_k (R : Nat) (l : List UInt8) (n : Nat) (w : World) (h : Rd w R l n) (hn : n < 60) (b : Bool) (hb : hd l = kI b) (h0 : 97 ≤ hd l) (h1 : hd l ≤ 98) :
    Calls Tryz.prog 119 #[.pointer (some ⟨R, 0, none⟩)] w (Reads R w (some (.k b, l.tail, n + 1))) := by
  have HB := Lib.hid hb
  have g1 : decide ((120 : Int) ≤ hd l) = false := by simp; omega
  have g3 : decide ((97 : Int) ≤ hd l) = true := by simp; omega
  have g4 : decide (hd l ≤ 102) = true := by simp; omega
  clear hb
  have H := Lib.hid h
  clear h
  go_enter Tryz.func119, Tryz.ntmps119
  go_wp2_with fail
  refine (next_any R l n _ H.out).mono ?_
  rintro e w1 ⟨rfl, h1, h2⟩
  have c1 := h1.c1
  have f1 := h1.f 1
  have hR := h1.lt
  have H1 : Hid (Rd (w1.setCell ⟨R, 1, none⟩ (.int .i64 ((n : Int) + 1))) R l.tail (n + 1)) := Lib.hid (h1.set1 (n + 1))
  have H2 := Lib.hid (h2.trans (grown_set w1 ⟨R, 1, none⟩ (.int .i64 ((n : Int) + 1))))
  clear h1 h2
  have hd1 : decide ((n : Int) + 1 ≤ 60) = true := by simp; omega
  go_wp2_with fail
  refine (demand_yes _ _).mono ?_
  rintro e w2 ⟨rfl, rfl⟩
  clear c1 f1 hR
  generalize w1.setCell ⟨R, 1, none⟩ (.int .i64 ((n : Int) + 1)) = w2 at H1 H2 ⊢
  clear w1
  go_wp2_with fail
  ((with_reducible refine (demand_yes _ _).mono ?_); rintro e w3 ⟨rfl, rfl⟩)
  go_wp2_with fail
  ((with_reducible refine (parts_any _ 0 h0 (by omega) (by omega) _).mono ?_); rintro e w4 ⟨rfl, rfl⟩)
  go_wp2_with fail
  refine wp_loop_rounds 1 ?_
  rw [rounds_succ]
  go_wp2_with fail
  ((with_reducible refine (parts_any _ 0 h0 (by omega) (by omega) _).mono ?_); rintro e w4 ⟨rfl, rfl⟩)
  go_wp2_with fail
  go_ret
  exact ⟨H2.out.trans (World.grownBy_alloc _ _ _), ⟨_, rfl, by show Value.iface _ (.agg #[.int .u8 (hd l), _]) = _; rw [HB.out]; rfl⟩, H1.out.alloc _⟩
/-- A way of reading: what it comes to, as two cases. -/
theorem reads_cases {R : Nat} {w : World} {o : Option (Tm × List UInt8 × Nat)} {e : Ending} {w' : World} (h : Reads R w o e w') :
    (∃ t l n T y, o = some (t, l, n) ∧ e = .returned (.iface T y) ∧ w.grownBy w' (some R) ∧ IsT (fun b => w.heap.size ≤ b) w' t (.iface T y) ∧ Rd w' R l n) ∨ (o = none ∧ e = .panicked (tr 4) ∧ w.grownBy w' (some R)) := by
  obtain ⟨h1, h2⟩ := h
  match o, h2 with
  | some (t, l, n), ⟨⟨x, h3, h4⟩, h5⟩ =>
    obtain ⟨T, y, rfl⟩ := h4.iface
    exact .inl ⟨t, l, n, T, y, rfl, h3, h1, h4, h5⟩
  | none, h2 => exact .inr ⟨rfl, h2, h1⟩

/-- One part more has been read: the term in block B bears it. -/
def Part (R B : Nat) (c : Int) (w2 : World) (o : Option (Tm × List UInt8 × Nat)) (ts : List Tm) (wc : World) : Prop :=
  ∃ t l' n' v, o = some (t, l', n') ∧ Rd wc R l' n' ∧ Bx wc B #[.int .u8 c, v] 149 ∧ OwnT (B + 1) (fun b => B < b) wc v (ts ++ [t]) ∧ w2.grownBy wc (some R)

theorem part_done {R B : Nat} {c : Int} {w2 w5 w6 w7 : World} {o : Option (Tm × List UInt8 × Nat)} {t : Tm} {l' : List UInt8} {n' : Nat} {ts : List Tm} {xs : List Value} {v x v7 : Value}
    (hR : R < B) (hB : w2.heap.size = B) (ho : o = some (t, l', n')) (h25 : w2.grownBy w5 (some R)) (h56 : w5.grownBy w6 (some R)) (hr : Rd w6 R l' n')
    (hlt : B < w5.heap.size) (hx : IsT (fun b => w5.heap.size ≤ b) w6 t x) (hbx : Bx w7 B #[.int .u8 c, v] 149) (hown : w5.ownsRow (B + 1) 99 1 v ts.length xs)
    (hall : AllT (fun b => B < b ∧ some b ≠ v.ownBlock) w5 ts xs) (hp : Pushed w6 (B + 1) 99 v ts.length xs x v7 w7) : Part R B c w2 o ts (w7.setCell ⟨B, 1, none⟩ v7) := by
  have hvr : ∀ k, v.ownBlock = some k → B < k ∧ k < w5.heap.size := fun k hk => by have := hown.lt k hk; omega
  have h67 := hp.2.1
  have hall6 : AllT (fun b => B < b ∧ some b ≠ v.ownBlock) w6 ts xs :=
    hall.keep fun a o y hS hc => ⟨h56.cell (a := ⟨a, o, none⟩) hc (ne_some (by have := hS.1; show a ≠ R; omega)), hS⟩
  have hx6 : IsT (fun b => B < b ∧ some b ≠ v.ownBlock) w6 t x :=
    hx.mono fun b hb => ⟨by omega, fun e => by have := (hvr b e.symm).2; omega⟩
  have hown7 : OwnT (B + 1) (fun b => B < b) w7 v7 (ts ++ [t]) := OwnT.push hall6 hx6 hp
  have hset : ∀ b, B ≠ b → (w7.setCell ⟨B, 1, none⟩ v7).heap[b]? = w7.heap[b]? := fun b hb => Below.heap_setCell _ _ _ _ (fun e => hb e.symm)
  refine ⟨t, l', n', v7, ho, ?_, hbx.set 1 v7, ?_, ?_⟩
  · exact (hr.grown h67 (fun e => by have := (hvr R e.symm).1; omega)).grown (grown_set _ _ _) (ne_some (by show R ≠ B; omega))
  · exact hown7.keep (fun k hk => hset k (by have := (hown7.lt k hk).1; omega)) (fun b hb _ => ⟨hset b (by omega), hb⟩)
  · refine ((h25.trans h56).andThen h67 (fun j hj => .inl (by have := (hvr j hj).1; omega))).andThen (grown_set _ _ _) (fun j hj => .inl ?_)
    simp only [Option.some.injEq] at hj; omega

/-- One part, then the closing parenthesis. -/
def unary (b : Bool) (l : List UInt8) (o : Option (Tm × List UInt8 × Nat)) : Option (Tm × List UInt8 × Nat) :=
  if hd l = 40 then
    match o with
    | some (t, l, n) => if hd l = 41 then some (.u b t, l.tail, n) else none
    | none => none
  else none

set_option maxHeartbeats 1000000 in
theorem term_u (R : Nat) (l : List UInt8) (n : Nat) (w : World) (h : Rd w R l n) (hn : n < 60) (b : Bool) (hb : hd l = uI b) (h0 : 99 ≤ hd l) (h1 : hd l ≤ 100) (o : Option (Tm × List UInt8 × Nat))
    (ih : ∀ w', Rd w' R l.tail.tail (n + 1) → Calls Tryz.prog 119 #[.pointer (some ⟨R, 0, none⟩)] w' (Reads R w' o)) :
    Calls Tryz.prog 119 #[.pointer (some ⟨R, 0, none⟩)] w (Reads R w (unary b l.tail o)) := by
  have HB := Lib.hid hb
  have IH := Lib.hid ih
  have g1 : decide ((120 : Int) ≤ hd l) = false := by simp; omega
  have g3 : decide ((97 : Int) ≤ hd l) = true := by simp; omega
  have g4 : decide (hd l ≤ 102) = true := by simp; omega
  clear hb ih
  have hRw := h.lt
  have H := Lib.hid h
  clear h
  go_enter Tryz.func119, Tryz.ntmps119
  go_wp2_with fail
  refine (next_any R l n _ H.out).mono ?_
  rintro e w1 ⟨rfl, h1, h2⟩
  have c1 := h1.c1
  have f1 := h1.f 1
  have hR := h1.lt
  have H1 : Hid (Rd (w1.setCell ⟨R, 1, none⟩ (.int .i64 ((n : Int) + 1))) R l.tail (n + 1)) := Lib.hid (h1.set1 (n + 1))
  have H2 := Lib.hid (h2.trans (grown_set w1 ⟨R, 1, none⟩ (.int .i64 ((n : Int) + 1))))
  clear h1 h2
  have hd1 : decide ((n : Int) + 1 ≤ 60) = true := by simp; omega
  go_wp2_with fail
  refine (demand_yes _ _).mono ?_
  rintro e w2 ⟨rfl, rfl⟩
  clear c1 f1 hR
  generalize w1.setCell ⟨R, 1, none⟩ (.int .i64 ((n : Int) + 1)) = w2 at H1 H2 ⊢
  clear w1
  go_wp2_with fail
  ((with_reducible refine (demand_yes _ _).mono ?_); rintro e w3 ⟨rfl, rfl⟩)
  go_wp2_with fail
  ((with_reducible refine (parts_any _ 1 (by omega) (by omega) (by omega) _).mono ?_); rintro e w4 ⟨rfl, rfl⟩)
  go_wp2_with fail
  refine wp_loop_rounds 2 ?_
  rw [rounds_succ]
  go_upto_block 1 with (fail)
  have hR2 := H1.out.lt
  have hw2 := H2.out.size
  have hbx0 := Bx.new w2 #[.int .u8 (hd l), .slice none 0 0] 149
  have hg0 := Lib.hid (World.grownBy_alloc w2 (.cells #[.int .u8 (hd l), .slice none 0 0] 149) (some R))
  have hr0 := Lib.hid (H1.out.alloc (.cells #[.int .u8 (hd l), .slice none 0 0] 149))
  have hs0 : w2.heap.size < (w2.alloc (.cells #[.int .u8 (hd l), .slice none 0 0] 149)).heap.size := by simp
  generalize w2.alloc (.cells #[.int .u8 (hd l), .slice none 0 0] 149) = W at hbx0 hg0 hr0 hs0 ⊢
  generalize hB : w2.heap.size = B at hbx0 hw2 hR2 hs0 ⊢
  have HB2 := Lib.hid hB
  have HX := Lib.hid hbx0
  clear hB hbx0
  go_cut [5] (fun _ wc => hd l.tail = 40 ∧ Part R B (hd l) w2 o [] wc)
  case first =>
    go_wp2_with fail
    refine (want_any R l.tail (n + 1) 40 _ hr0.out).mono ?_
    rintro e w5 ⟨he, h5, h6⟩
    by_cases hw : hd l.tail = 40
    · rw [if_pos hw] at he
      subst he
      have hbx := HX.out.grown h6 (ne_some (by omega))
      have c1 := hbx.cell 1
      have H5 := Lib.hid h5
      have H6 := Lib.hid h6
      have HX5 := Lib.hid hbx
      have HW := Lib.hid hw
      have hs5 : B < w5.heap.size := by have := h6.size; omega
      clear h5 h6 hbx hw
      simp only [List.getElem?_toArray, List.getElem?_cons_succ, List.getElem?_cons_zero] at c1
      go_wp2_with fail
      go_region_law (first
        | (go_simp; go_at_call 119; refine (IH.out w5.drew H5.out).mono ?_; rintro e w6 hh; rcases reads_cases hh with ⟨t, l', n', T, y, ho, rfl, hg, ht, hr⟩ | ⟨ho, rfl, hg⟩; rotate_left; exact ⟨rfl, H2.out.trans (hg0.out.trans (H6.out.trans (grown_undrew hg))), (by simp [unary, HW.out, ho])⟩; have HX6 := Lib.hid (HX5.out.grown (grown_undrew hg) (ne_some (by omega))); have c6 := HX6.out.cell 1; simp only [List.getElem?_toArray, List.getElem?_cons_succ, List.getElem?_cons_zero] at c6; have hlt6 : w5.heap.size ≤ w6.heap.size := (grown_undrew hg).size; have hlt6' : B < w6.heap.size := Nat.lt_of_lt_of_le hs5 hlt6; have HG6 := Lib.hid (grown_undrew hg); have HT6 := Lib.hid ht; have HR6 := Lib.hid hr; have HO6 := Lib.hid ho; clear hg ht hr ho)
        | (refine steppush_term (B + 1) (.slice none 0 0) 0 [] (.iface T y) (by rfl) (World.ownsRow_nil _ _ _ _) (by rfl) rfl (by decide) (by omega) ?_; rintro v7 w7 ⟨h71, h72, g, cap, rfl, hgl, hgs⟩; have HX7 := Lib.hid (HX6.out.grown h72 (by simp [Value.ownBlock])); have c7 := HX7.out.cell 1; have f7 := HX7.out.free 1; simp only [List.getElem?_toArray, List.getElem?_cons_succ, List.getElem?_cons_zero] at c7; have HP7 : Hid (Pushed w6 (B + 1) 99 (.slice none 0 0) 0 [] (.iface T y) (.slice (some ⟨g, 0, none⟩) (0 + 1) cap) w7) := Lib.hid ⟨h71, h72, g, cap, rfl, hgl, hgs⟩; clear h71 h72 hgl hgs))
      all_goals
        go_wp2_with fail
        go_meet
        exact ⟨HW.out, part_done hR2 HB2.out HO6.out (hg0.out.trans H6.out) HG6.out HR6.out hs5 HT6.out HX7.out (World.ownsRow_nil _ _ _ _) trivial HP7.out⟩
    · rw [if_neg hw] at he
      subst he
      exact ⟨rfl, H2.out.trans (hg0.out.trans h6), by simp [unary, hw]⟩
  case rest =>
    obtain ⟨hw, t, l', n', v, ho, hr, hbx, ⟨xs, hown, hall⟩, hg⟩ := hcut
    obtain ⟨g, cap, rfl, hgB, hgl, hcap, hcell, -⟩ := owns_form hown (by simp)
    obtain ⟨x, hx, ht⟩ := hall.get 0 t rfl
    have hc0 := hcell 0 x hx
    have hres : IsT (fun b => w.heap.size ≤ b) wc (.u b t) (tC (hd l) (.slice (some ⟨g, 0, none⟩) 1 cap)) :=
      ⟨g, 0, cap, x, congrArg (fun c => tC c _) HB.out, by omega, hc0, ht.mono fun b hb => Nat.le_trans hw2 (Nat.le_of_lt hb.1)⟩
    have HS := Lib.hid hres
    have c0 := hbx.cell 0
    have c1 := hbx.cell 1
    have HR := Lib.hid hr
    have HG := Lib.hid hg
    have HO := Lib.hid ho
    have HW := Lib.hid hw
    have HBx := Lib.hid hbx
    simp only [List.getElem?_toArray, List.getElem?_cons_succ, List.getElem?_cons_zero, List.length_append, List.length_nil, List.length_cons] at c0 c1
    clear hr hg ho hw hbx hown hall hcell hx ht hc0 hres
    go_wp2_with fail
    rw [rounds_succ]
    go_wp2_with fail
    ((with_reducible refine (parts_any _ 1 (by omega) (by omega) (by omega) _).mono ?_); rintro e w4 ⟨rfl, rfl⟩)
    go_wp2_with fail
    refine (want_any R l' n' 41 wc HR.out).mono ?_
    rintro e w5 ⟨he, h5, h6⟩
    by_cases hw : hd l' = 41
    · rw [if_pos hw] at he
      subst he
      have hu : unary b l.tail o = some (.u b t, l'.tail, n') := by simp [unary, HW.out, HO.out, hw]
      have HU := Lib.hid hu
      have hb5 := HBx.out.grown h6 (ne_some (by omega))
      have d0 := hb5.cell 0
      have d1 := hb5.cell 1
      have H5 := Lib.hid h5
      have H6 := Lib.hid h6
      simp only [List.getElem?_toArray, List.getElem?_cons_succ, List.getElem?_cons_zero, List.length_append, List.length_nil, List.length_cons] at d0 d1
      clear hb5 h5 h6 hw hu c0 c1
      go_wp2_with fail
      go_ret
      rw [HU.out]
      exact ⟨H2.out.trans (HG.out.trans H6.out), ⟨_, rfl, HS.out.grown H6.out fun b hb => ne_some (by omega)⟩, H5.out⟩
    · rw [if_neg hw] at he
      subst he
      exact ⟨rfl, H2.out.trans (HG.out.trans h6), by simp [unary, HW.out, HO.out, hw]⟩
/-- Two parts, with a comma between them, then the closing parenthesis. -/
def binary (b : Bool) (l : List UInt8) (o : Option (Tm × List UInt8 × Nat)) (o2 : List UInt8 → Nat → Option (Tm × List UInt8 × Nat)) : Option (Tm × List UInt8 × Nat) :=
  if hd l = 40 then
    match o with
    | some (s, l, n) =>
      if hd l = 44 then
        match o2 l.tail n with
        | some (t, l, n) => if hd l = 41 then some (.p b s t, l.tail, n) else none
        | none => none
      else none
    | none => none
  else none

set_option maxHeartbeats 4000000 in
theorem term_p (R : Nat) (l : List UInt8) (n : Nat) (w : World) (h : Rd w R l n) (hn : n < 60) (b : Bool) (hb : hd l = pI b) (h0 : 101 ≤ hd l) (h1 : hd l ≤ 102) (o : Option (Tm × List UInt8 × Nat))
    (ih : ∀ w', Rd w' R l.tail.tail (n + 1) → Calls Tryz.prog 119 #[.pointer (some ⟨R, 0, none⟩)] w' (Reads R w' o))
    (o2 : List UInt8 → Nat → Option (Tm × List UInt8 × Nat)) (ih2 : ∀ s l' n' w', o = some (s, l', n') → Rd w' R l'.tail n' → Calls Tryz.prog 119 #[.pointer (some ⟨R, 0, none⟩)] w' (Reads R w' (o2 l'.tail n'))) :
    Calls Tryz.prog 119 #[.pointer (some ⟨R, 0, none⟩)] w (Reads R w (binary b l.tail o o2)) := by
  have HB := Lib.hid hb
  have IH := Lib.hid ih
  have IH2 := Lib.hid ih2
  have g1 : decide ((120 : Int) ≤ hd l) = false := by simp; omega
  have g3 : decide ((97 : Int) ≤ hd l) = true := by simp; omega
  have g4 : decide (hd l ≤ 102) = true := by simp; omega
  clear hb ih ih2
  have hRw := h.lt
  have H := Lib.hid h
  clear h
  go_enter Tryz.func119, Tryz.ntmps119
  go_wp2_with fail
  refine (next_any R l n _ H.out).mono ?_
  rintro e w1 ⟨rfl, h1, h2⟩
  have c1 := h1.c1
  have f1 := h1.f 1
  have hR := h1.lt
  have H1 : Hid (Rd (w1.setCell ⟨R, 1, none⟩ (.int .i64 ((n : Int) + 1))) R l.tail (n + 1)) := Lib.hid (h1.set1 (n + 1))
  have H2 := Lib.hid (h2.trans (grown_set w1 ⟨R, 1, none⟩ (.int .i64 ((n : Int) + 1))))
  clear h1 h2
  have hd1 : decide ((n : Int) + 1 ≤ 60) = true := by simp; omega
  go_wp2_with fail
  refine (demand_yes _ _).mono ?_
  rintro e w2 ⟨rfl, rfl⟩
  clear c1 f1 hR
  generalize w1.setCell ⟨R, 1, none⟩ (.int .i64 ((n : Int) + 1)) = w2 at H1 H2 ⊢
  clear w1
  go_wp2_with fail
  ((with_reducible refine (demand_yes _ _).mono ?_); rintro e w3 ⟨rfl, rfl⟩)
  go_wp2_with fail
  ((with_reducible refine (parts_any _ 2 (by omega) (by omega) (by omega) _).mono ?_); rintro e w4 ⟨rfl, rfl⟩)
  go_wp2_with fail
  refine wp_loop_rounds 3 ?_
  rw [rounds_succ]
  go_upto_block 1 with (fail)
  have hR2 := H1.out.lt
  have hw2 := H2.out.size
  have hbx0 := Bx.new w2 #[.int .u8 (hd l), .slice none 0 0] 149
  have hg0 := Lib.hid (World.grownBy_alloc w2 (.cells #[.int .u8 (hd l), .slice none 0 0] 149) (some R))
  have hr0 := Lib.hid (H1.out.alloc (.cells #[.int .u8 (hd l), .slice none 0 0] 149))
  have hs0 : w2.heap.size < (w2.alloc (.cells #[.int .u8 (hd l), .slice none 0 0] 149)).heap.size := by simp
  generalize w2.alloc (.cells #[.int .u8 (hd l), .slice none 0 0] 149) = W at hbx0 hg0 hr0 hs0 ⊢
  generalize hB : w2.heap.size = B at hbx0 hw2 hR2 hs0 ⊢
  have HB2 := Lib.hid hB
  have HX := Lib.hid hbx0
  clear hB hbx0
  go_cut [5] (fun _ wc => hd l.tail = 40 ∧ Part R B (hd l) w2 o [] wc)
  case first =>
    go_wp2_with fail
    refine (want_any R l.tail (n + 1) 40 _ hr0.out).mono ?_
    rintro e w5 ⟨he, h5, h6⟩
    by_cases hw : hd l.tail = 40
    · rw [if_pos hw] at he
      subst he
      have hbx := HX.out.grown h6 (ne_some (by omega))
      have c1 := hbx.cell 1
      have H5 := Lib.hid h5
      have H6 := Lib.hid h6
      have HX5 := Lib.hid hbx
      have HW := Lib.hid hw
      have hs5 : B < w5.heap.size := by have := h6.size; omega
      clear h5 h6 hbx hw
      simp only [List.getElem?_toArray, List.getElem?_cons_succ, List.getElem?_cons_zero] at c1
      go_wp2_with fail
      go_region_law (first
        | (go_simp; go_at_call 119; refine (IH.out w5.drew H5.out).mono ?_; rintro e w6 hh; rcases reads_cases hh with ⟨t, l', n', T, y, ho, rfl, hg, ht, hr⟩ | ⟨ho, rfl, hg⟩; rotate_left; exact ⟨rfl, H2.out.trans (hg0.out.trans (H6.out.trans (grown_undrew hg))), (by simp [binary, HW.out, ho])⟩; have HX6 := Lib.hid (HX5.out.grown (grown_undrew hg) (ne_some (by omega))); have c6 := HX6.out.cell 1; simp only [List.getElem?_toArray, List.getElem?_cons_succ, List.getElem?_cons_zero] at c6; have hlt6 : w5.heap.size ≤ w6.heap.size := (grown_undrew hg).size; have hlt6' : B < w6.heap.size := Nat.lt_of_lt_of_le hs5 hlt6; have HG6 := Lib.hid (grown_undrew hg); have HT6 := Lib.hid ht; have HR6 := Lib.hid hr; have HO6 := Lib.hid ho; clear hg ht hr ho)
        | (refine steppush_term (B + 1) (.slice none 0 0) 0 [] (.iface T y) (by rfl) (World.ownsRow_nil _ _ _ _) (by rfl) rfl (by decide) (by omega) ?_; rintro v7 w7 ⟨h71, h72, g, cap, rfl, hgl, hgs⟩; have HX7 := Lib.hid (HX6.out.grown h72 (by simp [Value.ownBlock])); have c7 := HX7.out.cell 1; have f7 := HX7.out.free 1; simp only [List.getElem?_toArray, List.getElem?_cons_succ, List.getElem?_cons_zero] at c7; have HP7 : Hid (Pushed w6 (B + 1) 99 (.slice none 0 0) 0 [] (.iface T y) (.slice (some ⟨g, 0, none⟩) (0 + 1) cap) w7) := Lib.hid ⟨h71, h72, g, cap, rfl, hgl, hgs⟩; clear h71 h72 hgl hgs))
      all_goals
        go_wp2_with fail
        go_meet
        exact ⟨HW.out, part_done hR2 HB2.out HO6.out (hg0.out.trans H6.out) HG6.out HR6.out hs5 HT6.out HX7.out (World.ownsRow_nil _ _ _ _) trivial HP7.out⟩
    · rw [if_neg hw] at he
      subst he
      exact ⟨rfl, H2.out.trans (hg0.out.trans h6), by simp [binary, hw]⟩
  case rest =>
    obtain ⟨hw, t1, l1, n1, v1, ho, hr, hbx, ⟨xs, hown, hall⟩, hg⟩ := hcut
    obtain ⟨g1, cap1, rfl, hgB, hgl, hcap, -, -⟩ := owns_form hown (by simp)
    have hsc : B < wc.heap.size := by omega
    have HR := Lib.hid hr
    have HG := Lib.hid hg
    have HO := Lib.hid ho
    have HW := Lib.hid hw
    have HX1 := Lib.hid hbx
    have HOwn := Lib.hid hown
    have HAll := Lib.hid hall
    simp only [List.length_append, List.length_nil, List.length_cons, Nat.zero_add] at HX1 HOwn HAll
    clear hr hg ho hw hbx hown hall hgB hgl hcap
    clear hg0 hr0 hs0 HX
    go_wp2_with fail
    rw [rounds_succ]
    go_upto_block 1 with (fail)
    generalize hW1 : wc = W at HR HG HX1 HOwn HAll hsc ⊢
    clear hW1
    go_cut [5] (fun _ wc => hd l1 = 44 ∧ Part R B (hd l) w2 (o2 l1.tail n1) [t1] wc)
    case first =>
      go_wp2_with fail
      refine (want_any R l1 n1 44 _ HR.out).mono ?_
      rintro e w5 ⟨he, h5, h6⟩
      by_cases hw : hd l1 = 44
      · rw [if_pos hw] at he
        subst he
        have hbx := HX1.out.grown h6 (ne_some (by omega))
        have c1 := hbx.cell 1
        have H5 := Lib.hid h5
        have H6 := Lib.hid h6
        have HX5 := Lib.hid hbx
        have HW5 := Lib.hid hw
        have hs7 : B < w5.heap.size := by have := h6.size; omega
        have HOwn5 := Lib.hid (HOwn.out.kept h6 (.inr (by simp only [Value.ownBlock]; exact ne_some (by have := (HOwn.out.lt g1 rfl).1; show g1 ≠ R; omega))))
        have HAll5 := Lib.hid (HAll.out.keep (fun a o' y hS hc => ⟨h6.cell (a := ⟨a, o', none⟩) hc (ne_some (by have := hS.1; show a ≠ R; omega)), hS⟩))
        have hs5 : B < w5.heap.size := by have := h6.size; omega
        clear h5 h6 hbx hw
        simp only [List.getElem?_toArray, List.getElem?_cons_succ, List.getElem?_cons_zero] at c1
        go_wp2_with fail
        go_region_law (first
          | (go_simp; go_at_call 119; refine (IH2.out _ _ _ w5.drew HO.out H5.out).mono ?_; rintro e w6 hh; rcases reads_cases hh with ⟨t, l', n', T, y, ho, rfl, hg, ht, hr⟩ | ⟨ho, rfl, hg⟩; rotate_left; exact ⟨rfl, H2.out.trans (HG.out.trans (H6.out.trans (grown_undrew hg))), (by simp [binary, HW.out, HO.out, HW5.out, ho])⟩; have HX6 := Lib.hid (HX5.out.grown (grown_undrew hg) (ne_some (by omega))); have c6 := HX6.out.cell 1; simp only [List.getElem?_toArray, List.getElem?_cons_succ, List.getElem?_cons_zero] at c6; have hlt6 : w5.heap.size ≤ w6.heap.size := (grown_undrew hg).size; have hlt6' : B < w6.heap.size := Nat.lt_of_lt_of_le hs5 hlt6; have HG6 := Lib.hid (grown_undrew hg); have HT6 := Lib.hid ht; have HR6 := Lib.hid hr; have HO6 := Lib.hid ho; clear hg ht hr ho)
          | (refine steppush_term (B + 1) (.slice (some ⟨g1, 0, none⟩) 1 cap1) 1 xs (.iface T y) (by rfl) (HOwn5.out.kept HG6.out (.inr (by simp only [Value.ownBlock]; exact ne_some (by have := (HOwn5.out.lt g1 rfl).1; show g1 ≠ R; omega)))) (by rfl) rfl (by decide) (by omega) ?_; rintro v7 w7 ⟨h71, h72, g, cap, rfl, hgl, hgs⟩; have HX7 := Lib.hid (HX6.out.grown h72 (ne_some (by have := (HOwn5.out.lt g1 rfl).1; show B ≠ g1; omega))); have c7 := HX7.out.cell 1; have f7 := HX7.out.free 1; simp only [List.getElem?_toArray, List.getElem?_cons_succ, List.getElem?_cons_zero] at c7; have HP7 : Hid (Pushed w6 (B + 1) 99 (.slice (some ⟨g1, 0, none⟩) 1 cap1) 1 xs (.iface T y) (.slice (some ⟨g, 0, none⟩) (1 + 1) cap) w7) := Lib.hid ⟨h71, h72, g, cap, rfl, hgl, hgs⟩; clear h71 h72 hgl hgs))
        all_goals
          go_wp2_with fail
          go_meet
          exact ⟨HW5.out, part_done hR2 HB2.out HO6.out (HG.out.trans H6.out) HG6.out HR6.out hs5 HT6.out HX7.out HOwn5.out HAll5.out HP7.out⟩
      · rw [if_neg hw] at he
        subst he
        exact ⟨rfl, H2.out.trans (HG.out.trans h6), by simp [binary, HW.out, HO.out, hw]⟩
    case rest =>
      clear HR HG HX1 HOwn HAll hsc
      obtain ⟨hw, t, l', n', v, ho, hr, hbx, ⟨xs, hown, hall⟩, hg⟩ := hcut
      obtain ⟨g, cap, rfl, hgB, hgl, hcap, hcell, -⟩ := owns_form hown (by simp)
      obtain ⟨x, hx, ht⟩ := hall.get 0 t1 rfl
      obtain ⟨x', hx', ht'⟩ := hall.get 1 t rfl
      have hc0 := hcell 0 x hx
      have hc1 := hcell 1 x' hx'
      have hres : IsT (fun b => w.heap.size ≤ b) wc (.p b t1 t) (tC (hd l) (.slice (some ⟨g, 0, none⟩) 2 cap)) :=
        ⟨g, 0, cap, x, x', congrArg (fun c => tC c _) HB.out, by omega, hc0, hc1, ht.mono fun b hb => Nat.le_trans hw2 (Nat.le_of_lt hb.1), ht'.mono fun b hb => Nat.le_trans hw2 (Nat.le_of_lt hb.1)⟩
      have HS := Lib.hid hres
      have c0 := hbx.cell 0
      have c1 := hbx.cell 1
      have HR := Lib.hid hr
      have HG := Lib.hid hg
      have HO5 := Lib.hid ho
      have HW5 := Lib.hid hw
      have HBx := Lib.hid hbx
      simp only [List.getElem?_toArray, List.getElem?_cons_succ, List.getElem?_cons_zero, List.length_append, List.length_nil, List.length_cons] at c0 c1
      clear hr hg ho hw hbx hown hall hcell hx ht hc0 hres hc1 hx' ht'
      go_wp2_with fail
      rw [rounds_succ]
      go_wp2_with fail
      ((with_reducible refine (parts_any _ 2 (by omega) (by omega) (by omega) _).mono ?_); rintro e w4 ⟨rfl, rfl⟩)
      go_wp2_with fail
      refine (want_any R l' n' 41 wc HR.out).mono ?_
      rintro e w5 ⟨he, h5, h6⟩
      by_cases hw : hd l' = 41
      · rw [if_pos hw] at he
        subst he
        have hu : binary b l.tail o o2 = some (.p b t1 t, l'.tail, n') := by simp [binary, HW.out, HO.out, HW5.out, HO5.out, hw]
        have HU := Lib.hid hu
        have hb5 := HBx.out.grown h6 (ne_some (by omega))
        have d0 := hb5.cell 0
        have d1 := hb5.cell 1
        have H5 := Lib.hid h5
        have H6 := Lib.hid h6
        simp only [List.getElem?_toArray, List.getElem?_cons_succ, List.getElem?_cons_zero, List.length_append, List.length_nil, List.length_cons] at d0 d1
        clear hb5 h5 h6 hw hu c0 c1
        go_wp2_with fail
        go_ret
        rw [HU.out]
        exact ⟨H2.out.trans (HG.out.trans H6.out), ⟨_, rfl, HS.out.grown H6.out fun b hb => ne_some (by omega)⟩, H5.out⟩
      · rw [if_neg hw] at he
        subst he
        exact ⟨rfl, H2.out.trans (HG.out.trans h6), by simp [binary, HW.out, HO.out, HW5.out, HO5.out, hw]⟩

end Go.Proofs.YtholmlkjcobkdaaGreat
