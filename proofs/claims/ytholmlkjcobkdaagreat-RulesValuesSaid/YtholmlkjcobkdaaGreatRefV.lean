/- The references' Term, starts, and slices of strings. -/
import Derived.Test.YtholmlkjcobkdaaGreatRefW
import Derived.Laws.Slices
namespace Go.Proofs.YtholmlkjcobkdaaGreat
set_option linter.all false
set_option linter.unusedSimpArgs false
set_option linter.unusedVariables false
open Go.RowKit
set_option maxRecDepth 100000

theorem term_is (s : Str) (w : World) (hs : s.length ≤ 1000000000) : Calls Tryz.prog 25 #[encS s] w fun e w' => e = .returned (.bool (Tm.parse s).isSome) ∧ w = w' := by
  have hE : Calls Tryz.prog 72 #[encS s, .int .i64 0] w (End0 s 0 w) := End_any s hs 0 w
  have HE := Lib.hid hE
  have HS := Lib.hid (sizeR_any s w hs)
  have hh := isTerm_iff s
  have HH := Lib.hid hh
  clear hh hE
  unfold End0 encS at *
  by_cases h1 : endI s 0 = (s.length : Int)
  · have g1 : (endI s 0 == (s.length : Int)) = true := by simp [h1]
    have H1 := Lib.hid h1
    clear h1
    go_enter Tryz.func25, Tryz.ntmps25
    go_wp2_with (first
      | ((with_reducible refine HE.out.mono ?_); clear HE; rintro e w1 ⟨rfl, rfl⟩)
      | ((with_reducible refine HS.out.mono ?_); clear HS; rintro e w1 ⟨rfl, rfl⟩))
    go_ret
    have h := HH.out
    rw [decide_eq_true H1.out, Bool.true_and] at h
    exact ⟨by rw [← h]; simp; omega, rfl⟩
  · have g1 : (endI s 0 == (s.length : Int)) = false := by simpa using h1
    have H1 := Lib.hid h1
    clear h1
    go_enter Tryz.func25, Tryz.ntmps25
    go_wp2_with ((with_reducible refine HE.out.mono ?_); clear HE; rintro e w1 ⟨rfl, rfl⟩)
    go_ret
    have h := HH.out
    rw [decide_eq_false H1.out, Bool.false_and] at h
    exact ⟨by rw [← h]; rfl, rfl⟩

/-- A part of a string. -/
theorem slice_str (s : Str) (lo hi : Nat) (t : Str) (h : ∃ r, s.drop lo = t ++ r) (hh : hi = lo + t.length) (hhi : hi ≤ s.length) : ∀ W : World, (Instr.sliceAt 9 (.string ⟨s.toArray⟩) (some (.int .i64 lo)) (some (.int .i64 hi)) none).run Tryz.prog W = .ok (encS t) W := by
  intro W
  rw [run_sliceAt_string W _ _ _ _ _ Tryz.underlying9, run_slice_string W _ _ _ _ _ _ Tryz.underlying9 (by omega) (by omega) (by simp [ByteArray.size]; omega)]
  have hx : (⟨s.toArray⟩ : ByteArray).extract lo hi = ⟨t.toArray⟩ := by
    obtain ⟨r, hr⟩ := h
    ext1
    simp only [ByteArray.data_extract]
    apply Array.ext'
    simp [hr, hh]
  show Result.ok (Value.string ((⟨s.toArray⟩ : ByteArray).extract lo hi)) W = _
  rw [hx]; rfl

/-- Where the parts of a term begin that begins at a place. -/
def kidPos (i : Nat) : Tm → List Int
  | .u _ _ => [(i : Int) + 2]
  | .p _ s _ => [(i : Int) + 2, ((i + 2 + s.text.length : Nat) : Int) + 1]
  | _ => []

theorem owns_row {base : Nat} {w : World} {v : Value} {n : Nat} {l : List Int} (hn : n = l.length) (h : w.ownsRow base 3 1 v n (l.map (Value.int .i64))) : IsRow w v l := by
  subst hn
  by_cases hn : 0 < l.length
  · obtain ⟨g, cap, rfl, hb, hlt, hc, hcell, -⟩ := owns_form h hn
    refine ⟨_, cap, rfl, hc, fun j s hj => ⟨g, 0, rfl, ?_⟩⟩
    rw [Nat.zero_add]
    exact hcell j _ (by rw [List.getElem?_map, hj]; rfl)
  · have h0 : l = [] := List.length_eq_zero_iff.1 (by omega)
    subst h0
    obtain ⟨_, ⟨rfl, h0⟩ | ⟨g, cap, cur, rfl, -⟩⟩ := h
    · exact ⟨none, 0, rfl, Nat.le_refl _, fun j s hj => by simp at hj⟩
    · exact ⟨_, cap, rfl, Nat.zero_le _, fun j s hj => by simp at hj⟩

def Starts (l : List Int) (w : World) (e : Ending) (w' : World) : Prop := ∃ v, e = .returned v ∧ IsRow w' v l ∧ Ext w w' ∧ ∀ k, v.ownBlock = some k → w.heap.size ≤ k

set_option maxHeartbeats 2000000 in
theorem starts_any (s : Str) (i : Nat) (t : Tm) (w : World) (hs : s.length ≤ 1000000000) (ht : termAt s i = some t) : Calls Tryz.prog 75 #[encS s, .int .i64 (i : Int)] w (Starts (kidPos i t) w) := by
  have hend := termAt_end ht
  have hpos := text_pos t
  have hd := termAt_drop ht
  obtain ⟨q, hq⟩ := text_head t
  have hc : s[i]? = some t.symB := by
    have h0 : s[i]? = (s.drop i)[0]? := by rw [List.getElem?_drop]; rfl
    rw [h0, hd, hq]; rfl
  have hix := index_at s i t.symB hc i rfl
  have hi1 : (i : Int) + 2 ≤ 1000000001 := by
    cases t with
    | v j => omega
    | k b => omega
    | u b t => simp only [Tm.text, List.length_cons, List.length_append] at hend; omega
    | p b s t => simp only [Tm.text, List.length_cons, List.length_append] at hend; omega
  have HP := Lib.hid (fun W => partsC_any t.symB W)
  have hsym := symB_parts t
  have hown := World.ownsRow_nil w w.heap.size 3 1
  have HOwn := Lib.hid hown
  cases t with
  | v j =>
    have hp : ∀ W, Calls Tryz.prog 71 #[.int .u8 ((Tm.v j).symB.toNat : Int)] W fun e w' => e = .returned (.int .i64 0) ∧ W = w' := fun W => by have h := HP.out W; rwa [hsym] at h
    have HP' := Lib.hid hp
    clear HP hp hsym hc hq hd hown ht
    unfold encS
    go_enter Tryz.func75, Tryz.ntmps75
    go_wp2_with fail
    refine wp_loop_rounds 1 ?_
    rw [rounds_succ]
    go_wp2_with ((with_reducible refine (HP'.out _).mono ?_); rintro e w1 ⟨rfl, rfl⟩)
    go_ret
    exact ⟨_, rfl, owns_row (base := w.heap.size) (l := []) rfl HOwn.out, Ext.refl _, fun k e => by cases e⟩
  | k b =>
    have hp : ∀ W, Calls Tryz.prog 71 #[.int .u8 ((Tm.k b).symB.toNat : Int)] W fun e w' => e = .returned (.int .i64 0) ∧ W = w' := fun W => by have h := HP.out W; rwa [hsym] at h
    have HP' := Lib.hid hp
    clear HP hp hsym hc hq hd hown ht
    unfold encS
    go_enter Tryz.func75, Tryz.ntmps75
    go_wp2_with fail
    refine wp_loop_rounds 1 ?_
    rw [rounds_succ]
    go_wp2_with ((with_reducible refine (HP'.out _).mono ?_); rintro e w1 ⟨rfl, rfl⟩)
    go_ret
    exact ⟨_, rfl, owns_row (base := w.heap.size) (l := []) rfl HOwn.out, Ext.refl _, fun k e => by cases e⟩
  | u b t =>
    have hp : ∀ W, Calls Tryz.prog 71 #[.int .u8 ((Tm.u b t).symB.toNat : Int)] W fun e w' => e = .returned (.int .i64 1) ∧ W = w' := fun W => by have h := HP.out W; rwa [hsym] at h
    obtain ⟨-, r, hr, h41, hrt⟩ := (end_one hc _).1 ht
    cases hrt
    have hE1 : ∀ W, Calls Tryz.prog 72 #[encS s, .int .i64 ((i : Int) + 2)] W fun e w' => e = .returned (.int .i64 ((i + 2 + t.text.length : Nat) : Int)) ∧ W = w' := fun W => by
      have h := End_any s hs (i + 2) W
      unfold End0 at h
      rw [endI_some hr] at h
      exact h
    have hend2 := termAt_end hr
    have HP' := Lib.hid hp
    have HE := Lib.hid hE1
    clear HP hp hsym hc hq hd hown ht hr h41 hE1
    unfold encS at *
    generalize i + 2 + t.text.length = j1 at *
    have hj1 : (j1 : Int) + 1 ≤ 1000000001 := by omega
    go_enter Tryz.func75, Tryz.ntmps75
    go_wp2_with fail
    refine wp_loop_rounds 2 ?_
    rw [rounds_succ]
    go_wp2_with (first
      | (go_at_call 71; (with_reducible refine (HP'.out _).mono ?_); rintro e w1 ⟨rfl, rfl⟩)
      | (go_at_call 72; (with_reducible refine (HE.out _).mono ?_); rintro e w1 ⟨rfl, rfl⟩)
      | ((refine push_int w.heap.size (.slice none 0 0) 0 [] ((i : Int) + 2) (by rfl) HOwn.out (by rfl) (by decide) (Nat.le_refl _) ?_); rintro v7 w7 ⟨h71, h72, g, cap, rfl, hgl, hgs⟩; have HP7 := Lib.hid h71; have HE7 : Hid (Ext w w7) := Lib.hid ((Ext.refl w).grown h72 (fun k e => by cases e)); clear h71 h72))
    rw [rounds_succ]
    go_wp2_with (go_at_call 71; (with_reducible refine (HP'.out _).mono ?_); rintro e w1 ⟨rfl, rfl⟩)
    go_ret
    refine ⟨_, rfl, owns_row (base := w.heap.size) (l := kidPos i (.u b t)) rfl ?_, HE7.out, fun k e => (World.ownsRow.lt HP7.out k e).1⟩
    exact HP7.out
  | p b s1 s2 =>
    have hp : ∀ W, Calls Tryz.prog 71 #[.int .u8 ((Tm.p b s1 s2).symB.toNat : Int)] W fun e w' => e = .returned (.int .i64 2) ∧ W = w' := fun W => by have h := HP.out W; rwa [hsym] at h
    obtain ⟨-, r1, hr1, h44, r2, hr2, h41, hrt⟩ := (end_two hc _).1 ht
    cases hrt
    have hE1 : ∀ W, Calls Tryz.prog 72 #[encS s, .int .i64 ((i : Int) + 2)] W fun e w' => e = .returned (.int .i64 ((i + 2 + s1.text.length : Nat) : Int)) ∧ W = w' := fun W => by
      have h := End_any s hs (i + 2) W
      unfold End0 at h
      rw [endI_some hr1] at h
      exact h
    have hE2 : ∀ W, Calls Tryz.prog 72 #[encS s, .int .i64 (((i + 2 + s1.text.length : Nat) : Int) + 1)] W fun e w' => e = .returned (.int .i64 ((i + 2 + s1.text.length + 1 + s2.text.length : Nat) : Int)) ∧ W = w' := fun W => by
      have h := End_any s hs (i + 2 + s1.text.length + 1) W
      unfold End0 at h
      rw [endI_some hr2] at h
      exact h
    have hend2 := termAt_end hr1
    have hend3 := termAt_end hr2
    have HP' := Lib.hid hp
    have HE := Lib.hid hE1
    have HE2 := Lib.hid hE2
    clear HP hp hsym hc hq hd hown ht hr1 hr2 h41 h44 hE1 hE2
    unfold encS at *
    generalize hg1 : i + 2 + s1.text.length = j1 at *
    generalize j1 + 1 + s2.text.length = j2 at *
    have hj1 : (j1 : Int) + 1 ≤ 1000000001 := by omega
    have hj2 : (j2 : Int) + 1 ≤ 1000000001 := by omega
    have HG1 := Lib.hid hg1
    clear hg1
    go_enter Tryz.func75, Tryz.ntmps75
    go_wp2_with fail
    refine wp_loop_rounds 3 ?_
    rw [rounds_succ]
    go_wp2_with (first
      | (go_at_call 71; (with_reducible refine (HP'.out _).mono ?_); rintro e w1 ⟨rfl, rfl⟩)
      | (go_at_call 72; (with_reducible refine (HE.out _).mono ?_); rintro e w1 ⟨rfl, rfl⟩)
      | ((refine push_int w.heap.size (.slice none 0 0) 0 [] ((i : Int) + 2) (by rfl) HOwn.out (by rfl) (by decide) (Nat.le_refl _) ?_); rintro v7 w7 ⟨h71, h72, g, cap, rfl, hgl, hgs⟩; have HP7 := Lib.hid h71; have hE7 : Ext w w7 := ((Ext.refl w).grown h72 (fun k e => by cases e)); have hb7 := hE7.size; have HE7 := Lib.hid hE7; clear h71 h72 hE7))
    rw [rounds_succ]
    go_wp2_with (first
      | (go_at_call 71; (with_reducible refine (HP'.out _).mono ?_); rintro e w1 ⟨rfl, rfl⟩)
      | (go_at_call 72; (with_reducible refine (HE2.out _).mono ?_); rintro e w1 ⟨rfl, rfl⟩)
      | ((refine push_int w.heap.size (.slice (some ⟨g, 0, none⟩) 1 cap) 1 [.int .i64 ((i : Int) + 2)] ((j1 : Int) + 1) (by rfl) HP7.out (by rfl) (by decide) hb7 ?_); rintro v8 w8 ⟨h81, h82, g8, cap8, rfl, hgl8, hgs8⟩; have HP8 := Lib.hid h81; have HE8 : Hid (Ext w w8) := Lib.hid (HE7.out.grown h82 (fun k e => (World.ownsRow.lt HP7.out k e).1)); clear h81 h82))
    rw [rounds_succ]
    go_wp2_with (go_at_call 71; (with_reducible refine (HP'.out _).mono ?_); rintro e w1 ⟨rfl, rfl⟩)
    go_ret
    refine ⟨_, rfl, owns_row (base := w.heap.size) (l := kidPos i (.p b s1 s2)) rfl ?_, HE8.out, fun k e => (World.ownsRow.lt HP8.out k e).1⟩
    have h := HP8.out
    simp only [kidPos, HG1.out]
    exact h

end Go.Proofs.YtholmlkjcobkdaaGreat
