/- The text of a term: what the method 'text' hands back. -/
import Derived.Test.YtholmlkjcobkdaaGreatSize
import Derived.Test.YtholmlkjcobkdaaGreatPush
import Derived.Test.YtholmlkjcobkdaaGreatShelf
import Derived.Deep.RegionHeld3
namespace Go.Proofs.YtholmlkjcobkdaaGreat
set_option linter.all false
set_option linter.unusedSimpArgs false
set_option linter.unusedVariables false
open Go.RowKit

/-- string(rune(c)) is the one byte c. -/
def Byte (c : Int) (b : UInt8) : Prop := 0 ≤ c ∧ c ≤ 127 ∧ Utf8.encode c = ⟨#[b]⟩ ∧ IntKind.i32.wrap c = c

theorem join1 (g cp : Nat) (l : List UInt8) (hl : l.length ≤ 1000000) (w : World) (h0 : w.cell? ⟨g, 0, none⟩ = some (.string ⟨l.toArray⟩)) (hcp : 1 ≤ cp) :
    Calls Tryz.prog 195 #[.slice (some ⟨g, 0, none⟩) 1 cp, .string ⟨#[44]⟩] w fun e w' => e = .returned (.string ⟨l.toArray⟩) ∧ Ext w w' := by
  refine (Tryz.strings_Join g 0 cp [⟨l.toArray⟩] ⟨#[44]⟩ w ?_ (lt_of_cell h0) (by simp) (by simpa using hcp) (by simp [Lib.join]; omega)).mono ?_
  · intro j x hj
    match j, hj with
    | 0, hj => simp at hj; subst hj; exact h0
  · rintro e w' ⟨rfl, h⟩
    exact ⟨by simp [Lib.join], h⟩

theorem join2 (g cp : Nat) (l m : List UInt8) (hl : l.length ≤ 1000000) (hm : m.length ≤ 1000000) (w : World) (h0 : w.cell? ⟨g, 0, none⟩ = some (.string ⟨l.toArray⟩))
    (h1 : w.cell? ⟨g, 1, none⟩ = some (.string ⟨m.toArray⟩)) (hcp : 2 ≤ cp) :
    Calls Tryz.prog 195 #[.slice (some ⟨g, 0, none⟩) 2 cp, .string ⟨#[44]⟩] w fun e w' => e = .returned (.string ⟨(l ++ 44 :: m).toArray⟩) ∧ Ext w w' := by
  refine (Tryz.strings_Join g 0 cp [⟨l.toArray⟩, ⟨m.toArray⟩] ⟨#[44]⟩ w ?_ (lt_of_cell h0) (by simp) (by simpa using hcp) (by simp [Lib.join]; omega)).mono ?_
  · intro j x hj
    match j, hj with
    | 0, hj => simp at hj; subst hj; exact h0
    | 1, hj => simp at hj; subst hj; exact h1
  · rintro e w' ⟨rfl, h⟩
    exact ⟨by simp [Lib.join], h⟩

theorem text_cat (b : UInt8) (l : List UInt8) : ({ data := #[b] } ++ { data := #[40] } ++ { data := l.toArray } ++ { data := #[41] } : ByteArray) = { data := (b :: 40 :: (l ++ [41])).toArray } := by
  simp only [ByteArray.mk_append_mk]
  rfl

theorem text_v (c : Int) (b : UInt8) (hb : Byte c b) (w : World) : Calls Tryz.prog 190 #[.int .u8 c] w fun e w' => e = .returned (.string ⟨#[b]⟩) ∧ Ext w w' := by
  obtain ⟨h0, h1, hc, hw⟩ := hb
  go_enter Tryz.func190, Tryz.ntmps190
  go_wp2
  go_ret
  exact ⟨rfl, Ext.refl _⟩

theorem text_k (c : Int) (b : UInt8) (hb : Byte c b) (w : World) : Calls Tryz.prog 193 #[.agg #[.int .u8 c, .slice none 0 0]] w fun e w' => e = .returned (.string ⟨#[b]⟩) ∧ Ext w w' := by
  obtain ⟨h0, h1, hc, hw⟩ := hb
  go_enter Tryz.func193, Tryz.ntmps193
  go_wp2
  go_ret
  exact ⟨rfl, (Below.refl _ _).alloc (Nat.le_refl _) _⟩

set_option maxRecDepth 100000 in
theorem text_u (c : Int) (b : UInt8) (hb : Byte c b) (a o cap : Nat) (x : Value) (w : World) (l : List UInt8) (hl : l.length ≤ 1000000) (hc : w.cell? ⟨a, o, none⟩ = some x)
    (hx : Gives "numnah/rules.text" (.string ⟨l.toArray⟩) x w) :
    Calls Tryz.prog 193 #[.agg #[.int .u8 c, .slice (some ⟨a, o, none⟩) 1 cap]] w fun e w' => e = .returned (.string ⟨(b :: 40 :: (l ++ [41])).toArray⟩) ∧ Ext w w' := by
  obtain ⟨h0, h1, hcv, hw⟩ := hb
  have ha := lt_of_cell hc
  go_enter Tryz.func193, Tryz.ntmps193
  go_wp2
  refine wp_loop_rounds 2 ?_
  rw [rounds_succ]
  go_wp2_with (first
    | (refine wpList_invoke0 x rfl ?_; intro K hK; refine (hx _ ((Below.refl _ _).alloc (Nat.le_refl _) _)).mono ?_; rintro e w1 ⟨rfl, hb1⟩)
    | (at_builtin; refine push_str (w.heap.size + 1) _ 0 [] ⟨l.toArray⟩ (by rfl) (World.ownsRow_nil _ _ _ _) (by rfl) (by decide) (by have := hb1.size; simp at this; omega) ?_; rintro v2 w2 ⟨hown, hgr, -⟩))
  have hB : Below (w.heap.size + 1) (w.alloc (Obj.cells #[Value.int IntKind.u8 c, Value.slice (some { block := a, off := o }) 1 cap] 149)) w2 :=
    Below.grown (by simpa [Ext] using hb1) hgr (by have := hb1.size; simp at this; omega) (fun k e => by cases e)
  have hbox : w2.cell? ⟨w.heap.size, 0, none⟩ = some (.int .u8 c) := (hB.cell (p := ⟨w.heap.size, 0, none⟩) (Nat.lt_succ_self _)).trans (by simp)
  obtain ⟨g, cp, rfl, hg, hg2, hcp, hcell, -⟩ := owns_form hown (by decide)
  have hc0 : w2.cell? ⟨g, 0, none⟩ = some (.string ⟨l.toArray⟩) := hcell 0 _ rfl
  have hE : Ext w w2 := Ext.trans ((Below.refl _ _).alloc (Nat.le_refl _) _) (Below.mono hB (by simp))
  clear hcell hown hgr hb1 hc hx hB
  have a1 : ¬ 9223372036854775807 < 2 + l.length := by omega
  have a2 : ¬ 9223372036854775807 < 2 + l.length + 1 := by omega
  rw [rounds_succ]
  go_wp2_with fail
  go_region_held3 (fun W => W.cell? ⟨w.heap.size, 0, none⟩ = some (.int .u8 c) ∧ W.cell? ⟨g, 0, none⟩ = some (.string ⟨l.toArray⟩)) (first | exact ⟨hbox, hc0⟩ | exact ⟨Ext.cell hb3 hbox, Ext.cell hb3 hc0⟩)
    (first | (go_at_call 195; refine (join1 g cp l hl w2.drew hc0 hcp).mono ?_; rintro e w3 ⟨rfl, hb3⟩))
  go_wp2
  go_ret
  exact ⟨rfl, hE.drew.trans hb3⟩

set_option maxRecDepth 100000 in
theorem text_p (c : Int) (b : UInt8) (hb : Byte c b) (a o cap : Nat) (x y : Value) (w : World) (l m : List UInt8) (hl : l.length ≤ 1000000) (hm : m.length ≤ 1000000)
    (hc : w.cell? ⟨a, o, none⟩ = some x) (hd : w.cell? ⟨a, o + 1, none⟩ = some y)
    (hx : Gives "numnah/rules.text" (.string ⟨l.toArray⟩) x w) (hy : Gives "numnah/rules.text" (.string ⟨m.toArray⟩) y w) :
    Calls Tryz.prog 193 #[.agg #[.int .u8 c, .slice (some ⟨a, o, none⟩) 2 cap]] w fun e w' => e = .returned (.string ⟨(b :: 40 :: ((l ++ 44 :: m) ++ [41])).toArray⟩) ∧ Ext w w' := by
  obtain ⟨h0, h1, hcv, hw⟩ := hb
  have ha := lt_of_cell hc
  go_enter Tryz.func193, Tryz.ntmps193
  go_wp2
  refine wp_loop_rounds 3 ?_
  rw [rounds_succ]
  go_wp2_with (first
    | (refine wpList_invoke0 x rfl ?_; intro K hK; refine (hx _ ((Below.refl _ _).alloc (Nat.le_refl _) _)).mono ?_; rintro e w1 ⟨rfl, hb1⟩)
    | (at_builtin; refine push_str (w.heap.size + 1) _ 0 [] ⟨l.toArray⟩ (by rfl) (World.ownsRow_nil _ _ _ _) (by rfl) (by decide) (by have := hb1.size; simp at this; omega) ?_; rintro v2 w2 ⟨hown, hgr, -⟩))
  have hB : Below (w.heap.size + 1) (w.alloc (Obj.cells #[Value.int IntKind.u8 c, Value.slice (some { block := a, off := o }) 2 cap] 149)) w2 :=
    Below.grown (by simpa [Ext] using hb1) hgr (by have := hb1.size; simp at this; omega) (fun k e => by cases e)
  have hE2 : Ext w w2 := Ext.trans ((Below.refl _ _).alloc (Nat.le_refl _) _) (Below.mono hB (by simp))
  have hd2 := hE2.cell hd
  clear hgr hb1 hc hx hd
  simp only [Nat.zero_add, List.nil_append] at hown
  rw [rounds_succ]
  go_wp2_with (first
    | (refine wpList_invoke0 y rfl ?_; intro K hK; refine (hy _ hE2).mono ?_; rintro e w3 ⟨rfl, hb3⟩)
    | (at_builtin; refine push_str (w.heap.size + 1) _ 1 _ ⟨m.toArray⟩ (by rfl) (owns_ext hown hb3) (by rfl) (by decide) (by have := hB.size; have := hb3.size; simp at *; omega) ?_; rintro v4 w4 ⟨hown4, hgr4, -⟩))
  simp only [List.cons_append, List.nil_append] at hown4
  have hB4 : Below (w.heap.size + 1) (w.alloc (Obj.cells #[Value.int IntKind.u8 c, Value.slice (some { block := a, off := o }) 2 cap] 149)) w4 :=
    Below.grown (hB.trans (Below.mono hb3 (by have := hB.size; simp at this; omega))) hgr4 (by have := hB.size; have := hb3.size; simp at *; omega) (fun k e => (hown.lt k e).1)
  have hbox : w4.cell? ⟨w.heap.size, 0, none⟩ = some (.int .u8 c) := (hB4.cell (p := ⟨w.heap.size, 0, none⟩) (Nat.lt_succ_self _)).trans (by simp)
  obtain ⟨g, cp, rfl, hg, hg2, hcp, hcell, -⟩ := owns_form hown4 (by decide)
  have hc0 : w4.cell? ⟨g, 0, none⟩ = some (.string ⟨l.toArray⟩) := hcell 0 _ rfl
  have hc1 : w4.cell? ⟨g, 1, none⟩ = some (.string ⟨m.toArray⟩) := hcell 1 _ rfl
  have hE : Ext w w4 := Ext.trans ((Below.refl _ _).alloc (Nat.le_refl _) _) (Below.mono hB4 (by simp))
  clear hcell hown hgr4 hB hd2 hown4 hb3 hE2 hy hB4
  have a1 : ¬ 9223372036854775807 < 2 + (l.length + (m.length + 1)) := by omega
  have a2 : ¬ 9223372036854775807 < 2 + (l.length + (m.length + 1)) + 1 := by omega
  rw [rounds_succ]
  go_wp2_with fail
  go_region_held3 (fun W => W.cell? ⟨w.heap.size, 0, none⟩ = some (.int .u8 c) ∧ W.cell? ⟨g, 0, none⟩ = some (.string ⟨l.toArray⟩) ∧ W.cell? ⟨g, 1, none⟩ = some (.string ⟨m.toArray⟩))
    (first | exact ⟨hbox, hc0, hc1⟩ | exact ⟨Ext.cell hb5 hbox, Ext.cell hb5 hc0, Ext.cell hb5 hc1⟩)
    (first | (go_at_call 195; refine (join2 g cp l m hl hm w4.drew hc0 hc1 hcp).mono ?_; rintro e w5 ⟨rfl, hb5⟩))
  go_wp2
  go_ret
  exact ⟨rfl, hE.drew.trans hb5⟩
theorem byte_v (i : Fin 3) : Byte (vI i) (Tm.vb i) := by
  match i with
  | 0 => exact ⟨by decide, by decide, by kernel_rfl, by decide⟩
  | 1 => exact ⟨by decide, by decide, by kernel_rfl, by decide⟩
  | 2 => exact ⟨by decide, by decide, by kernel_rfl, by decide⟩
theorem byte_k (b : Bool) : Byte (kI b) (Tm.kb b) := by cases b <;> exact ⟨by decide, by decide, by kernel_rfl, by decide⟩
theorem byte_u (b : Bool) : Byte (uI b) (Tm.ub b) := by cases b <;> exact ⟨by decide, by decide, by kernel_rfl, by decide⟩
theorem byte_p (b : Bool) : Byte (pI b) (Tm.pb b) := by cases b <;> exact ⟨by decide, by decide, by kernel_rfl, by decide⟩

theorem meth_text_v (n : Int) (w : World) : (callMethod (.iface 131 (.int .u8 n)) "numnah/rules.text" #[]).run Tryz.prog w = .ok (.enter 190 #[.int .u8 n]) w := by kernel_rfl
theorem meth_text_c (n : Int) (x : Value) (w : World) : (callMethod (tC n x) "numnah/rules.text" #[]).run Tryz.prog w = .ok (.enter 193 #[.agg #[.int .u8 n, x]]) w := by kernel_rfl

/-- The text as a string. -/
def str (t : Tm) : Value := .string ⟨t.text.toArray⟩

theorem text_length (t : Tm) : t.text.length ≤ 4 * t.size := by
  induction t with
  | v i => simp [Tm.text, Tm.size]
  | k b => simp [Tm.text, Tm.size]
  | u b t ih => simp [Tm.text, Tm.size]; omega
  | p b s t ih1 ih2 => simp [Tm.text, Tm.size]; omega

/-- The method 'text' of whatever stands for a term: its text. -/
theorem text_inv {S : Nat → Prop} : ∀ (t : Tm) (x : Value) (w : World), t.size ≤ 100000 → IsT S w t x → Gives "numnah/rules.text" (str t) x w := by
  intro t
  induction t with
  | v i => rintro x w _ rfl w' he; exact ⟨_, _, meth_text_v _ _, text_v _ _ (byte_v i) _⟩
  | k b => rintro x w _ rfl w' he; exact ⟨_, _, meth_text_c _ _ _, text_k _ _ (byte_k b) _⟩
  | u b t ih =>
    rintro x w hs ⟨a, o, cap, y, rfl, -, hc, ht⟩ w' he
    simp only [Tm.size] at hs
    have := text_length t
    exact ⟨_, _, meth_text_c _ _ _, text_u _ _ (byte_u b) a o cap y w' t.text (by omega) (he.cell hc) (fun w2 h2 => ih y w' (by omega) (ht.ext he) w2 h2)⟩
  | p b s t ihs iht =>
    rintro x w hs ⟨a, o, cap, y, z, rfl, -, hc, hd, hs', ht⟩ w' he
    simp only [Tm.size] at hs
    have := text_length t
    have := text_length s
    refine ⟨_, _, meth_text_c _ _ _, (text_p _ _ (byte_p b) a o cap y z w' s.text t.text (by omega) (by omega) (he.cell hc) (he.cell hd)
      (fun w2 h2 => ihs y w' (by omega) (hs'.ext he) w2 h2) (fun w2 h2 => iht z w' (by omega) (ht.ext he) w2 h2)).mono ?_⟩
    rintro e w2 ⟨rfl, h2⟩
    exact ⟨by simp [str, Tm.text], h2⟩
end Go.Proofs.YtholmlkjcobkdaaGreat
