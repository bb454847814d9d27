/- Readings, and values of terms: what is computed. -/
import Derived.Test.YtholmlkjcobkdaaGreatOrientX
namespace Go.Proofs.YtholmlkjcobkdaaGreat
set_option linter.all false
set_option linter.unusedSimpArgs false
set_option linter.unusedVariables false
open Go.RowKit
set_option maxRecDepth 100000

/-- The numbers of one symbol. -/
def okRow (i : Nat) (r : List Int) : Bool := decide (r.length = 1 + i / 2) && decide (0 ≤ r.getD 0 0 ∧ r.getD 0 0 ≤ 2) && (r.drop 1).all fun n => decide (1 ≤ n ∧ n ≤ 2)

/-- Whether lists are a reading. -/
def okRead (rd : List (List Int)) : Bool := decide (rd.length = 6) && (List.range 6).all fun i => okRow i (rd.getD i [])

/-- The place of a term's symbol. -/
def Tm.ix : Tm → Nat
  | .v _ => 0
  | .k b => if b then 1 else 0
  | .u b _ => if b then 3 else 2
  | .p b _ _ => if b then 5 else 4

def Tm.val (rd : List (List Int)) : Tm → Nat → Int
  | .v i => fun m => if m = i.val + 1 then 1 else 0
  | .k b => fun m => if m = 0 then (rd.getD (Tm.k b).ix []).getD 0 0 else 0
  | .u b t => fun m => (if m = 0 then (rd.getD (Tm.u b t).ix []).getD 0 0 else 0) + (rd.getD (Tm.u b t).ix []).getD 1 0 * t.val rd m
  | .p b s t => fun m => (if m = 0 then (rd.getD (Tm.p b s t).ix []).getD 0 0 else 0) + (rd.getD (Tm.p b s t).ix []).getD 1 0 * s.val rd m + (rd.getD (Tm.p b s t).ix []).getD 2 0 * t.val rd m

/-- The value by way of the first d parts. -/
def valD (rd : List (List Int)) (t : Tm) : Nat → Nat → Int
  | 0, k => if k = 0 then (rd.getD t.ix []).getD 0 0 else 0
  | d + 1, k => valD rd t d k + (rd.getD t.ix []).getD (1 + d) 0 * (match t.kids[d]? with | some u => u.val rd k | none => 0)

theorem valD_all (rd : List (List Int)) {t : Tm} (h : t.isV = false) (k : Nat) : valD rd t t.kids.length k = t.val rd k := by
  cases t with
  | v i => simp [Tm.isV] at h
  | k b => rfl
  | u b t => rfl
  | p b s t => rfl

theorem ix_lt {t : Tm} (h : t.isV = false) : t.ix < 6 := by
  cases t with
  | v i => simp [Tm.isV] at h
  | k b => cases b <;> decide
  | u b t => simp only [Tm.ix]; split <;> omega
  | p b s t => simp only [Tm.ix]; split <;> omega

theorem ix_sym {t : Tm} (h : t.isV = false) : t.sym = 97 + (t.ix : Int) := by
  cases t with
  | v i => simp [Tm.isV] at h
  | k b => cases b <;> decide
  | u b t => simp only [Tm.ix, Tm.sym, uI]; split <;> rfl
  | p b s t => simp only [Tm.ix, Tm.sym, pI]; split <;> rfl

theorem ix_kids {t : Tm} (h : t.isV = false) : t.ix / 2 = t.kids.length := by
  cases t with
  | v i => simp [Tm.isV] at h
  | k b => cases b <;> decide
  | u b t => simp only [Tm.ix, Tm.kids]; split <;> rfl
  | p b s t => simp only [Tm.ix, Tm.kids]; split <;> rfl

theorem okRead_row {rd : List (List Int)} (h : okRead rd = true) {i : Nat} (hi : i < 6) : ∃ r, rd[i]? = some r ∧ rd.getD i [] = r ∧ r.length = 1 + i / 2 ∧ 0 ≤ r.getD 0 0 ∧ r.getD 0 0 ≤ 2 ∧ ∀ j, j < i / 2 → 1 ≤ r.getD (1 + j) 0 ∧ r.getD (1 + j) 0 ≤ 2 := by
  simp only [okRead, Bool.and_eq_true, decide_eq_true_eq, List.all_eq_true, List.mem_range] at h
  have h2 := h.2 i hi
  have hl : rd[i]? = some (rd[i]'(by omega)) := List.getElem?_eq_getElem (by omega)
  have hg : rd.getD i [] = rd[i]'(by omega) := by simp [List.getD, hl]
  rw [hg] at h2
  simp only [okRow, Bool.and_eq_true, decide_eq_true_eq, List.all_eq_true] at h2
  refine ⟨_, hl, hg, h2.1.1, h2.1.2.1, h2.1.2.2, fun j hj => ?_⟩
  refine h2.2 _ ?_
  have : (rd[i]'(by omega)).getD (1 + j) 0 = (rd[i]'(by omega))[1 + j]'(by omega) := by
    simp [List.getD, List.getElem?_eq_getElem (show 1 + j < (rd[i]'(by omega)).length by omega)]
  rw [this]
  refine List.mem_iff_getElem.2 ⟨j, by rw [List.length_drop]; omega, ?_⟩
  rw [List.getElem_drop]

theorem okRead_length {rd : List (List Int)} (h : okRead rd = true) : rd.length = 6 := by
  simp only [okRead, Bool.and_eq_true, decide_eq_true_eq] at h
  exact h.1

theorem mul_bd {r n B : Int} (h1 : 1 ≤ r) (h2 : r ≤ 2) (h3 : 0 ≤ n) (h4 : n ≤ B) : 0 ≤ r * n ∧ r * n ≤ 2 * B := by
  have : r = 1 ∨ r = 2 := by omega
  rcases this with rfl | rfl <;> omega

theorem val_bd {rd : List (List Int)} (h : okRead rd = true) : ∀ (t : Tm) (k : Nat), 0 ≤ t.val rd k ∧ t.val rd k ≤ 4 ^ t.size - 1 := by
  intro t
  induction t with
  | v i => intro k; simp only [Tm.val, Tm.size]; split <;> omega
  | k b =>
    intro k
    obtain ⟨r, -, h1, -, h2, h3, -⟩ := okRead_row h (ix_lt (t := .k b) rfl)
    simp only [Tm.val, Tm.size, h1]; split <;> omega
  | u b t ih =>
    intro k
    obtain ⟨r, -, h1, -, h2, h3, h4⟩ := okRead_row h (ix_lt (t := .u b t) rfl)
    have h5 := h4 0 (by rw [ix_kids (t := .u b t) rfl]; simp [Tm.kids])
    have h6 := mul_bd h5.1 h5.2 (ih k).1 (ih k).2
    simp only [Nat.add_zero] at h6
    have h7 : (4 : Int) ^ (t.size + 1) = 4 ^ t.size * 4 := Int.pow_succ ..
    have h8 : (0 : Int) < 4 ^ t.size := Int.pow_pos (by decide)
    simp only [Tm.val, Tm.size, h1, h7]
    split <;> omega
  | p b s t ihs iht =>
    intro k
    obtain ⟨r, -, h1, -, h2, h3, h4⟩ := okRead_row h (ix_lt (t := .p b s t) rfl)
    have h5 := h4 0 (by rw [ix_kids (t := .p b s t) rfl]; simp [Tm.kids])
    have h5' := h4 1 (by rw [ix_kids (t := .p b s t) rfl]; simp [Tm.kids])
    have h6 := mul_bd h5.1 h5.2 (ihs k).1 (ihs k).2
    have h6' := mul_bd h5'.1 h5'.2 (iht k).1 (iht k).2
    simp only [Nat.add_zero] at h6
    have h7 : (4 : Int) ^ (s.size + t.size + 1) = 4 ^ s.size * 4 ^ t.size * 4 := by rw [Int.pow_succ, Int.pow_add]
    have h8 : (4 : Int) ^ s.size ≥ 4 := by
      obtain ⟨n, hn⟩ : ∃ n, s.size = n + 1 := ⟨s.size - 1, by have := s.size_pos; omega⟩
      rw [hn, Int.pow_succ]
      have : (0 : Int) < 4 ^ n := Int.pow_pos (by decide)
      omega
    have h9 : (4 : Int) ^ t.size ≥ 4 := by
      obtain ⟨n, hn⟩ : ∃ n, t.size = n + 1 := ⟨t.size - 1, by have := t.size_pos; omega⟩
      rw [hn, Int.pow_succ]
      have : (0 : Int) < 4 ^ n := Int.pow_pos (by decide)
      omega
    have h10 : (4 : Int) ^ s.size * 4 ^ t.size ≥ 4 ^ s.size * 4 := Int.mul_le_mul_of_nonneg_left h9 (by omega)
    have h11 : (4 : Int) ^ s.size * 4 ^ t.size ≥ 4 * 4 ^ t.size := Int.mul_le_mul_of_nonneg_right h8 (by omega)
    generalize (4 : Int) ^ s.size * 4 ^ t.size = P at h7 h10 h11
    simp only [Tm.val, Tm.size, h1, h7, show 1 + 1 = 2 from rfl] at *
    split <;> omega

theorem val_small {rd : List (List Int)} (h : okRead rd = true) {t : Tm} (ht : t.size ≤ 12) (k : Nat) : 0 ≤ t.val rd k ∧ t.val rd k ≤ 16777216 := by
  have h1 := val_bd h t k
  have h2 : (4 : Int) ^ t.size ≤ 4 ^ 12 := by exact_mod_cast Nat.pow_le_pow_right (show 0 < 4 by decide) ht
  have h3 : (4 : Int) ^ 12 = 16777216 := by decide
  omega

theorem valD_bd {rd : List (List Int)} (h : okRead rd = true) {t : Tm} (hv : t.isV = false) (ht : t.size ≤ 12) (k : Nat) : ∀ d, d ≤ t.kids.length → 0 ≤ valD rd t d k ∧ valD rd t d k ≤ 2 + 33554432 * d
  | 0, _ => by
    obtain ⟨r, -, h1, -, h2, h3, -⟩ := okRead_row h (ix_lt hv)
    simp only [valD, h1]; split <;> omega
  | d + 1, hd => by
    have ih := valD_bd h hv ht k d (by omega)
    obtain ⟨r, -, h1, -, -, -, h4⟩ := okRead_row h (ix_lt hv)
    obtain ⟨u, hu⟩ : ∃ u, t.kids[d]? = some u := ⟨_, List.getElem?_eq_getElem (by omega)⟩
    have h5 := h4 d (by rw [ix_kids hv]; omega)
    have h6 := val_small h (t := u) (by have := kid_size hu; omega) k
    have h7 := mul_bd h5.1 h5.2 h6.1 h6.2
    simp only [valD, h1, hu]
    omega

/-- The four numbers of a value. -/
def vals (f : Nat → Int) : Array Value := #[.int .i64 (f 0), .int .i64 (f 1), .int .i64 (f 2), .int .i64 (f 3)]

theorem vals_at (f : Nat → Int) {m : Nat} (h : m < 4) : (vals f)[m]? = some (.int .i64 (f m)) := by
  have : m = 0 ∨ m = 1 ∨ m = 2 ∨ m = 3 := by omega
  rcases this with rfl | rfl | rfl | rfl <;> rfl

theorem vals_set (f : Nat → Int) {m : Nat} (h : m < 4) (x : Int) : (vals f).setIfInBounds m (.int .i64 x) = vals fun k => if k = m then x else f k := by
  have : m = 0 ∨ m = 1 ∨ m = 2 ∨ m = 3 := by omega
  rcases this with rfl | rfl | rfl | rfl <;> rfl

theorem vals_congr {f g : Nat → Int} (h : ∀ m, m < 4 → f m = g m) : vals f = vals g := by
  unfold vals; rw [h 0 (by decide), h 1 (by decide), h 2 (by decide), h 3 (by decide)]

/-- A list of numbers that is read. -/
def IsRow (w : World) (x : Value) (r : List Int) : Prop := ∃ p cap, x = .slice p r.length cap ∧ r.length ≤ cap ∧ ∀ j n, r[j]? = some n → ∃ a o, p = some ⟨a, o, none⟩ ∧ w.cell? ⟨a, o + j, none⟩ = some (.int .i64 n)

/-- A list of lists that is read. -/
def IsRd (w : World) (v : Value) (rd : List (List Int)) : Prop := ∃ p cap, v = .slice p rd.length cap ∧ rd.length ≤ cap ∧ ∀ j r, rd[j]? = some r → ∃ a o x, p = some ⟨a, o, none⟩ ∧ w.cell? ⟨a, o + j, none⟩ = some x ∧ IsRow w x r

theorem IsRow.keep {w w' : World} {x : Value} {r : List Int} (h : ∀ a o y, w.cell? ⟨a, o, none⟩ = some y → w'.cell? ⟨a, o, none⟩ = some y) (hr : IsRow w x r) : IsRow w' x r := by
  obtain ⟨p, cap, h1, h2, h3⟩ := hr
  refine ⟨p, cap, h1, h2, fun j n hj => ?_⟩
  obtain ⟨a, o, ha, hc⟩ := h3 j n hj
  exact ⟨a, o, ha, h _ _ _ hc⟩

theorem IsRd.keep {w w' : World} {v : Value} {rd : List (List Int)} (h : ∀ a o y, w.cell? ⟨a, o, none⟩ = some y → w'.cell? ⟨a, o, none⟩ = some y) (hr : IsRd w v rd) : IsRd w' v rd := by
  obtain ⟨p, cap, h1, h2, h3⟩ := hr
  refine ⟨p, cap, h1, h2, fun j r hj => ?_⟩
  obtain ⟨a, o, x, ha, hc, hx⟩ := h3 j r hj
  exact ⟨a, o, x, ha, h _ _ _ hc, hx.keep h⟩

theorem IsRow.ext {w w' : World} {x : Value} {r : List Int} (he : Ext w w') (h : IsRow w x r) : IsRow w' x r := h.keep fun _ _ _ hc => he.cell hc
theorem IsRd.ext {w w' : World} {v : Value} {rd : List (List Int)} (he : Ext w w') (h : IsRd w v rd) : IsRd w' v rd := h.keep fun _ _ _ hc => he.cell hc

end Go.Proofs.YtholmlkjcobkdaaGreat
