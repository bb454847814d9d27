/- 'read' and 'same' and 'Size'. -/
import Derived.Test.YtholmlkjcobkdaaGreatReadAll
import Derived.Test.YtholmlkjcobkdaaGreatText
namespace Go.Proofs.YtholmlkjcobkdaaGreat
set_option linter.all false
set_option linter.unusedSimpArgs false
set_option linter.unusedVariables false
open Go.RowKit
set_option maxRecDepth 100000

/-- What reading a whole string comes to. -/
def ReadsStr (w : World) (o : Option Tm) (e : Ending) (w' : World) : Prop :=
  (∃ t T y, o = some t ∧ e = .returned (.iface T y) ∧ Ext w w' ∧ IsT (fun b => w.heap.size ≤ b) w' t (.iface T y)) ∨ (o = none ∧ e = .panicked (tr 4) ∧ Ext w w')

theorem isEmpty_eq (l : List UInt8) : (({ data := l.toArray } : ByteArray).toList == ([] : List UInt8)) = l.isEmpty := by
  cases l <;> simp

theorem read_any (l : List UInt8) (w : World) : Calls Tryz.prog 69 #[.string ⟨l.toArray⟩] w (ReadsStr w (Tm.parse l)) := by
  have hbx : Rd (w.alloc (.cells #[.string ⟨l.toArray⟩, .int .i64 0] 160)) w.heap.size l 0 := Bx.new w _ _
  have HB := Lib.hid hbx
  clear hbx
  go_enter Tryz.func69, Tryz.ntmps69
  go_wp2_with fail
  refine (term_any w.heap.size 61 l 0 _ HB.out (by omega) (by omega)).mono ?_
  intro e w1 hh
  rcases reads_cases hh with ⟨t, l', n', T, y, ho, rfl, hg, ht, hr⟩ | ⟨ho, rfl, hg⟩
  · have hE := Lib.hid ((Ext.new w _).grown hg (some_le (Nat.le_refl _)))
    have c0 := hr.c0
    have hT := Lib.hid (ht.mono (S' := fun b => w.heap.size ≤ b) (fun b hb => by simp at hb; omega))
    have hO := Lib.hid ho
    have hS := Lib.hid hh
    clear hg ht hr ho hh
    cases l' with
    | nil =>
      go_wp2_with fail
      refine (demand_yes _ _).mono ?_
      rintro e w2 ⟨rfl, rfl⟩
      go_wp2
      go_ret
      exact .inl ⟨t, T, y, by simp [Tm.parse, hO.out], rfl, hE.out, hT.out⟩
    | cons d l' =>
      go_wp2_with fail
      refine (demand_no _ _).mono ?_
      rintro e w2 ⟨rfl, rfl⟩
      exact ⟨rfl, .inr ⟨by simp [Tm.parse, hO.out], rfl, hE.out⟩⟩
  · exact ⟨rfl, .inr ⟨by simp [Tm.parse, ho], rfl, (Ext.new w _).grown hg (some_le (Nat.le_refl _))⟩⟩

theorem same_any {S S' : Nat → Prop} (s t : Tm) (x y : Value) (w : World) (hs : s.size ≤ 100000) (ht : t.size ≤ 100000) (hx : IsT S w s x) (hy : IsT S' w t y) :
    Calls Tryz.prog 125 #[x, y] w fun e w' => e = .returned (.bool (decide (s = t))) ∧ Ext w w' := by
  have h1 := Lib.hid (text_inv s x w hs hx)
  have h2 := Lib.hid (text_inv t y w ht hy)
  obtain ⟨T, x, rfl⟩ := hx.iface
  obtain ⟨U, y, rfl⟩ := hy.iface
  clear hx hy
  have he : (s.text == t.text) = decide (s = t) := by
    by_cases h : s = t
    · subst h; simp
    · rw [decide_eq_false h, beq_eq_false_iff_ne]; exact fun e => h (Tm.text_inj e)
  have HE := Lib.hid he
  clear he
  go_enter Tryz.func125, Tryz.ntmps125
  go_wp2_with (first
    | (refine wpList_invoke0 (.iface T x) rfl ?_; intro K hK; refine (h1.out _ (Ext.refl _)).mono ?_; rintro e w1 ⟨rfl, hb1⟩; clear h1)
    | (refine wpList_invoke0 (.iface U y) rfl ?_; intro K hK; refine (h2.out _ hb1).mono ?_; rintro e w2 ⟨rfl, hb2⟩; unfold str))
  go_ret
  exact ⟨by rw [← HE.out]; rfl, hb1.trans hb2⟩
end Go.Proofs.YtholmlkjcobkdaaGreat
