/- Whether a variable occurs in a term; whether a term, or one in it, is an instance of another one. -/
import Derived.RangeFuncFrom
import Derived.Test.YtholmlkjcobkdaaGreatSubs
namespace Go.Proofs.YtholmlkjcobkdaaGreat
set_option linter.all false
set_option linter.unusedSimpArgs false
set_option linter.unusedVariables false
open Go.RowKit Go.Shelf
set_option maxRecDepth 100000
attribute [local go_sem] Oper.semAt_some

theorem Bx.own {w w' : World} {r : Option Nat} {B : Nat} {cs : Array Value} {t : TypeId} (h : Bx w B cs t) (hg : w.grownBy w' r) (hr : ∀ k, r = some k → ∃ o : Obj, w.heap[k]? = some o ∧ o.isCells = false) : Bx w' B cs t := by
  refine h.grown hg ?_
  rintro rfl
  obtain ⟨o, ho, hk⟩ := hr B rfl
  rw [show w.heap[B]? = _ from h] at ho
  cases ho; cases hk

theorem Bx.at {w : World} {B : Nat} {cs : Array Value} {t : TypeId} (h : Bx w B cs t) (o : Nat) {y : Value} (hy : cs[o]? = some y) : w.cell? ⟨B, o, none⟩ = some y := (h.cell o).trans hy

theorem Ext.keeps {w w' : World} (h : Ext w w') : KeepsOthers w w' := ⟨h.size, fun k o hk _ => (Below.block h k (Array.getElem?_eq_some_iff.1 hk).1).trans hk⟩

theorem vI_inj : ∀ i j, vI i = vI j → i = j := by decide

theorem occurs_any (i : Fin 3) (t : Tm) (x : Value) (w : World) (ht : t.size ≤ 100000) (hx : IsT (fun _ => True) w t x) :
    Calls Tryz.prog 121 #[.int .u8 (vI i), x] w fun e w' => e = .returned (.bool (decide (Tm.v i ∈ t.subs))) ∧ Ext w w' := by
  refine (callsIn_wide (n := 5)).1 ?_
  obtain ⟨T, y, rfl⟩ := hx.iface
  refine callsIn_of_wp_marks Tryz.func121 rfl (wide_fn _) ?_ rfl
  simp only [Tryz.ntmps121, List.size_toArray, List.length_cons, List.length_nil, Nat.reduceAdd, Nat.reduceSub, Array.replicate_succ, Array.replicate_zero, List.push_toArray, List.append_toArray, List.nil_append, List.cons_append]
  have HX := Lib.hid hx
  clear hx
  gi_wp2_with (refine ⟨trivial, ?_⟩; (with_reducible refine (callsIn_wide.2 (subterms_any _ _ _)).mono ?_); rintro e w' ⟨rfl, rfl⟩)
  have hb0 : Bx (((w.alloc (.cells #[.int .u8 (vI i)] 131)).alloc (.cells #[.bool false] 4)).alloc (.cells #[.iface T y] 99)) w.heap.size #[.int .u8 (vI i)] 131 := ((Bx.new w _ _).alloc _).alloc _
  have hb1 : Bx (((w.alloc (.cells #[.int .u8 (vI i)] 131)).alloc (.cells #[.bool false] 4)).alloc (.cells #[.iface T y] 99)) (w.heap.size + 1) #[.bool false] 4 := by
    have h := (Bx.new (w.alloc (.cells #[.int .u8 (vI i)] 131)) #[.bool false] 4).alloc (.cells #[.iface T y] 99)
    rwa [World.size_alloc] at h
  have hb2 : Bx (((w.alloc (.cells #[.int .u8 (vI i)] 131)).alloc (.cells #[.bool false] 4)).alloc (.cells #[.iface T y] 99)) (w.heap.size + 1 + 1) #[.iface T y] 99 := by
    have h := (Bx.new ((w.alloc (.cells #[.int .u8 (vI i)] 131)).alloc (.cells #[.bool false] 4)) #[.iface T y] 99)
    rwa [World.size_alloc, World.size_alloc] at h
  have hB : Below w.heap.size w (((w.alloc (.cells #[.int .u8 (vI i)] 131)).alloc (.cells #[.bool false] 4)).alloc (.cells #[.iface T y] 99)) := ((Ext.new w _).alloc _).alloc _
  have hc2 := hb2.at (y := .iface T y) 0 rfl
  refine wpIn_rangeFunc_ownF rfl (by decide) (gf := 136) (lb := #[.pointer (some ⟨w.heap.size + 1 + 1, 0, none⟩)]) rfl (wide_fn _) (enters_of Tryz.func136 (by kernel_rfl) rfl)
    (subs_stops _ w _ (w.heap.size + 1 + 1) t (.iface T y) ht HX.out (Ext.lies hB) hc2) Lies.trans (lies_b) (Below.refl _ _) (fun _ => rfl)
    (fun pre W => ((Tm.v i ∉ tms pre) ∧ Bx W w.heap.size #[.int .u8 (vI i)] 131 ∧ Bx W (w.heap.size + 1) #[.bool false] 4) ∧ Below w.heap.size w W)
    (fun c pre W => (c = .ret ∧ Tm.v i ∈ tms pre ∧ Bx W (w.heap.size + 1) #[.bool true] 4) ∧ Below w.heap.size w W)
    (OwnFrom.and (Own.from (fun s A B row hs hg hr => ⟨hs.1, hs.2.1.own hg hr, hs.2.2.own hg hr⟩) _) (ownFrom_below (Nat.le_refl _) (by simp; omega)))
    (fun c => OwnFrom.and (Own.from (fun s A B row hs hg hr => ⟨hs.1, hs.2.1, hs.2.2.own hg hr⟩) _) (ownFrom_below (Nat.le_refl _) (by simp; omega)))
    ⟨⟨by simp [tms], hb0, hb1⟩, hB⟩
    (fun x => { tmps := #[.int .u8 (vI i), .iface T y, .pointer (some ⟨w.heap.size, 0, none⟩), undef, .pointer (some ⟨w.heap.size + 1, 0, none⟩), x.1.1, undef, undef, .iface T y, .func (.func 136) #[] #[.pointer (some ⟨w.heap.size + 1 + 1, 0, none⟩)], x.1.1, undef, undef, undef, undef, undef, undef, undef, undef, undef, undef, undef], defers := [] }) ?assign ?body ?done ?stop
  case assign =>
    intro l x W K hK
    gi_wp2
    exact hK
  case body =>
    clear hc2 hb0 hb1 hb2
    rintro l pre ⟨⟨u, s⟩, hu, hsz⟩ W ⟨⟨hn, h0, h1⟩, hB2⟩ _
    have HB := Lib.hid hB2
    have HN := Lib.hid hn
    have HU := Lib.hid hu
    have H0 := Lib.hid h0
    have H1 := Lib.hid h1
    have hf := h1.free 0
    have hc := h1.at (y := .bool false) 0 rfl
    have hc0 := h0.at (y := .int .u8 (vI i)) 0 rfl
    clear h0 h1 hB2 hn
    dsimp only
    cases s with
    | v j =>
      obtain rfl : u = tV j := hu
      have h2 := as_vv j
      unfold tV
      gi_wp2
      · rename_i hx
        obtain rfl : i = j := vI_inj _ _ (eq_of_beq hx)
        exact ⟨KeepsOthers.setCell _ _ _, ⟨rfl, by simp [tms], H1.out.set 0 _⟩, HB.out.setCell (p := ⟨w.heap.size + 1, 0, none⟩) (by simp) _⟩
      · rename_i hx
        exact ⟨KeepsOthers.refl _, Lies.refl _, ⟨by have := HN.out; simp [tms] at this ⊢; exact ⟨this, fun e => by subst e; simp at hx⟩, H0.out, H1.out⟩, HB.out⟩
    | k b =>
      obtain rfl : u = tC (kI b) (.slice none 0 0) := hu
      have h2 := as_cv (kI b) (.slice none 0 0)
      unfold tC
      gi_wp2
      exact ⟨KeepsOthers.refl _, Lies.refl _, ⟨by have := HN.out; simp [tms] at this ⊢; exact this, H0.out, H1.out⟩, HB.out⟩
    | u b t =>
      obtain ⟨a, o, cap, y, rfl, -⟩ := id hu
      have h2 := as_cv (uI b) (.slice (some ⟨a, o, none⟩) 1 cap)
      unfold tC
      gi_wp2
      exact ⟨KeepsOthers.refl _, Lies.refl _, ⟨by have := HN.out; simp [tms] at this ⊢; exact this, H0.out, H1.out⟩, HB.out⟩
    | p b s t =>
      obtain ⟨a, o, cap, y, z, rfl, -⟩ := id hu
      have h2 := as_cv (pI b) (.slice (some ⟨a, o, none⟩) 2 cap)
      unfold tC
      gi_wp2
      exact ⟨KeepsOthers.refl _, Lies.refl _, ⟨by have := HN.out; simp [tms] at this ⊢; exact this, H0.out, H1.out⟩, HB.out⟩
  case done =>
    rintro D ys W hD hys ⟨⟨hn, h0, h1⟩, hB2⟩ hK
    have HY := Lib.hid hys
    have HN := Lib.hid hn
    have H1 := Lib.hid h1
    have hf := h1.free 0
    have hc := h1.at (y := .bool false) 0 rfl
    gi_wp2
    have hK' := (KeepsOthers.setCell W ⟨w.heap.size + 1, 0, none⟩ (.bool false)).same D _ hK rfl
    refine ⟨by simp, .inl ⟨_, _, rfl, run_takeDeferred hK', ?_⟩⟩
    have hc5 := cell_kept (World.cell?_setCell_same' W ⟨w.heap.size + 1, 0, none⟩ (.bool false) (by rw [hc]; rfl)) (grownBy_putObj' _ D (.deferred none)) (fun r e => by cases e; exact ⟨_, hK', rfl⟩)
    refine ⟨.bool false, ?_, by rw [← HY.out, decide_eq_false HN.out], (hB2.setCell (p := ⟨w.heap.size + 1, 0, none⟩) (by simp) _).trans (belowK_b (w := w) (Nat.le_refl _) _ D _ _ (by simp at hD; omega) hK' rfl rfl)⟩
    simp [results, Tryz.f121, go_sem, hc5]
  case stop =>
    rintro D c pre W hD hpre ⟨⟨rfl, hin, h1⟩, hB2⟩ hK
    gi_wp2
    refine ⟨by simp, .inl ⟨_, _, rfl, run_takeDeferred hK, ?_⟩⟩
    have hc5 := cell_kept (h1.at (y := .bool true) 0 rfl) (grownBy_putObj' _ D (.deferred none)) (fun r e => by cases e; exact ⟨_, hK, rfl⟩)
    refine ⟨.bool true, ?_, by rw [decide_eq_true (hpre.subset hin)], hB2.trans (belowK_b (w := w) (Nat.le_refl _) W D _ _ (by simp at hD; omega) hK rfl rfl)⟩
    simp [results, Tryz.f121, go_sem, hc5]


/-- Whether the term, or one in it, is an instance of the first one. -/
def Tm.comes (f t : Tm) : Bool := t.subs.any fun u => (f.mt u fun _ => none).isSome

theorem sub_none (S : Nat → Prop) (w : World) : IsSub S w [] (fun _ => none) := fun _ => .inl ⟨rfl, rfl⟩
theorem small_none : Sub.small (fun _ => none) := fun _ _ h => nomatch h

theorem match_fresh {S S' : Nat → Prop} (p t : Tm) (px tx : Value) (w : World) (hts : t.size ≤ 100000) (hp : IsT S w p px) (ht : IsT S' w t tx) :
    Calls Tryz.prog 96 #[px, tx, .map (some w.heap.size)] (w.alloc (.map #[] 0)) fun e w' => e = .returned (.bool (p.mt t fun _ => none).isSome) ∧ Ext w w' := by
  refine (match_any w.heap.size p t px tx [] (fun _ => none) _ small_none hts (Mp.made _ _) (sub_none _ _) (hp.ext (Ext.new _ _)) (ht.ext (Ext.new _ _))).mono ?_
  rintro e w' ⟨hg, ⟨σ, m, ho, rfl, -⟩ | ⟨ho, rfl⟩⟩
  · exact ⟨by rw [ho]; rfl, (Ext.new w _).grown hg (some_le (Nat.le_refl _))⟩
  · exact ⟨by rw [ho]; rfl, (Ext.new w _).grown hg (some_le (Nat.le_refl _))⟩

theorem comes_any {S : Nat → Prop} (f t : Tm) (x y : Value) (w : World) (ht : t.size ≤ 100000) (hx : IsT S w f x) (hy : IsT (fun _ => True) w t y) :
    Calls Tryz.prog 79 #[x, y] w fun e w' => e = .returned (.bool (f.comes t)) ∧ Ext w w' := by
  refine (callsIn_wide (n := 5)).1 ?_
  obtain ⟨T, y, rfl⟩ := hy.iface
  obtain ⟨U, x, rfl⟩ := hx.iface
  refine callsIn_of_wp_marks Tryz.func79 rfl (wide_fn _) ?_ rfl
  simp only [Tryz.ntmps79, List.size_toArray, List.length_cons, List.length_nil, Nat.reduceAdd, Nat.reduceSub, Array.replicate_succ, Array.replicate_zero, List.push_toArray, List.append_toArray, List.nil_append, List.cons_append]
  have HX := Lib.hid hx
  have HY := Lib.hid hy
  clear hx hy
  gi_wp2_with (refine ⟨trivial, ?_⟩; (with_reducible refine (callsIn_wide.2 (subterms_any _ _ _)).mono ?_); rintro e w' ⟨rfl, rfl⟩)
  have hb0 : Bx (((w.alloc (.cells #[.iface U x] 99)).alloc (.cells #[.bool false] 4)).alloc (.cells #[.iface T y] 99)) w.heap.size #[.iface U x] 99 := ((Bx.new w _ _).alloc _).alloc _
  have hb1 : Bx (((w.alloc (.cells #[.iface U x] 99)).alloc (.cells #[.bool false] 4)).alloc (.cells #[.iface T y] 99)) (w.heap.size + 1) #[.bool false] 4 := by
    have h := (Bx.new (w.alloc (.cells #[.iface U x] 99)) #[.bool false] 4).alloc (.cells #[.iface T y] 99)
    rwa [World.size_alloc] at h
  have hb2 : Bx (((w.alloc (.cells #[.iface U x] 99)).alloc (.cells #[.bool false] 4)).alloc (.cells #[.iface T y] 99)) (w.heap.size + 1 + 1) #[.iface T y] 99 := by
    have h := (Bx.new ((w.alloc (.cells #[.iface U x] 99)).alloc (.cells #[.bool false] 4)) #[.iface T y] 99)
    rwa [World.size_alloc, World.size_alloc] at h
  have hB : Below w.heap.size w (((w.alloc (.cells #[.iface U x] 99)).alloc (.cells #[.bool false] 4)).alloc (.cells #[.iface T y] 99)) := ((Ext.new w _).alloc _).alloc _
  have hc2 := hb2.at (y := .iface T y) 0 rfl
  refine wpIn_rangeFunc_ownF rfl (by decide) (gf := 136) (lb := #[.pointer (some ⟨w.heap.size + 1 + 1, 0, none⟩)]) rfl (wide_fn _) (enters_of Tryz.func136 (by kernel_rfl) rfl)
    (subs_stops _ w _ (w.heap.size + 1 + 1) t (.iface T y) ht HY.out (Ext.lies hB) hc2) Lies.trans (lies_b) (Below.refl _ _) (fun _ => rfl)
    (fun pre W => (((tms pre).any (fun u => (f.mt u fun _ => none).isSome) = false) ∧ Bx W w.heap.size #[.iface U x] 99 ∧ Bx W (w.heap.size + 1) #[.bool false] 4) ∧ Below w.heap.size w W)
    (fun c pre W => (c = .ret ∧ ((tms pre).any (fun u => (f.mt u fun _ => none).isSome) = true) ∧ Bx W (w.heap.size + 1) #[.bool true] 4) ∧ Below w.heap.size w W)
    (OwnFrom.and (Own.from (fun s A B row hs hg hr => ⟨hs.1, hs.2.1.own hg hr, hs.2.2.own hg hr⟩) _) (ownFrom_below (Nat.le_refl _) (by simp; omega)))
    (fun c => OwnFrom.and (Own.from (fun s A B row hs hg hr => ⟨hs.1, hs.2.1, hs.2.2.own hg hr⟩) _) (ownFrom_below (Nat.le_refl _) (by simp; omega)))
    ⟨⟨by simp [tms], hb0, hb1⟩, hB⟩
    (fun z => { tmps := #[.iface U x, .iface T y, .pointer (some ⟨w.heap.size, 0, none⟩), undef, .pointer (some ⟨w.heap.size + 1, 0, none⟩), z.1.1, .iface T y, .func (.func 136) #[] #[.pointer (some ⟨w.heap.size + 1 + 1, 0, none⟩)], z.1.1, undef, undef, undef, undef], defers := [] }) ?assign ?body ?done ?stop
  case assign =>
    intro l x W K hK
    gi_wp2
    exact hK
  case body =>
    clear hc2 hb0 hb1 hb2
    rintro l pre ⟨⟨u, s⟩, hu, hsz⟩ W ⟨⟨hn, h0, h1⟩, hB2⟩ _
    have HB := Lib.hid hB2
    have HN := Lib.hid hn
    have HU := Lib.hid hu
    have H0 := Lib.hid h0
    have H1 := Lib.hid h1
    have hf := h1.free 0
    have hc := h1.at (y := .bool false) 0 rfl
    have hc0 := h0.at (y := .iface U x) 0 rfl
    have hmm := @run_makeMap Tryz.prog
    clear h0 h1 hB2 hn
    dsimp only at hu hsz HU ⊢
    obtain ⟨V, u, rfl⟩ := hu.iface
    have hm := match_fresh f s (.iface U x) (.iface V u) W hsz (HX.out.ext HB.out) (HU.out.ext HB.out)
    cases hb : (f.mt s fun _ => none).isSome with
    | true =>
      rw [hb] at hm
      have HMb := Lib.hid hb
      clear hb
      gi_wp2_with (refine ⟨trivial, ?_⟩; (with_reducible refine (CallsIn.inRound l (callsIn_wide.2 hm)).mono ?_); rintro e w' ⟨rfl, hE⟩; have H1' := H1.out.ext hE; have hf' := H1'.free 0; have hc' := H1'.at (y := .bool false) 0 rfl)
      exact ⟨hE.keeps.trans (KeepsOthers.setCell _ _ _), ⟨rfl, by rw [tms, List.map_append, List.any_append]; simp [HMb.out], H1'.set 0 _⟩, (Ext.trans HB.out hE).setCell (p := ⟨w.heap.size + 1, 0, none⟩) (by simp) _⟩
    | false =>
      rw [hb] at hm
      have HMb := Lib.hid hb
      clear hb
      gi_wp2_with (refine ⟨trivial, ?_⟩; (with_reducible refine (CallsIn.inRound l (callsIn_wide.2 hm)).mono ?_); rintro e w' ⟨rfl, hE⟩)
      exact ⟨hE.keeps, hE.lies, ⟨by have := HN.out; rw [tms] at this ⊢; rw [List.map_append, List.any_append, this]; simp [HMb.out], H0.out.ext hE, H1.out.ext hE⟩, Ext.trans HB.out hE⟩
  case done =>
    rintro D ys W hD hys ⟨⟨hn, h0, h1⟩, hB2⟩ hK
    have HY := Lib.hid hys
    have HN := Lib.hid hn
    have H1 := Lib.hid h1
    have hf := h1.free 0
    have hc := h1.at (y := .bool false) 0 rfl
    gi_wp2
    have hK' := (KeepsOthers.setCell W ⟨w.heap.size + 1, 0, none⟩ (.bool false)).same D _ hK rfl
    refine ⟨by simp, .inl ⟨_, _, rfl, run_takeDeferred hK', ?_⟩⟩
    have hc5 := cell_kept (World.cell?_setCell_same' W ⟨w.heap.size + 1, 0, none⟩ (.bool false) (by rw [hc]; rfl)) (grownBy_putObj' _ D (.deferred none)) (fun r e => by cases e; exact ⟨_, hK', rfl⟩)
    refine ⟨.bool false, ?_, by rw [Tm.comes, ← HY.out, HN.out], (hB2.setCell (p := ⟨w.heap.size + 1, 0, none⟩) (by simp) _).trans (belowK_b (w := w) (Nat.le_refl _) _ D _ _ (by simp at hD; omega) hK' rfl rfl)⟩
    simp [results, Tryz.f79, go_sem, hc5]
  case stop =>
    rintro D c pre W hD hpre ⟨⟨rfl, hin, h1⟩, hB2⟩ hK
    gi_wp2
    refine ⟨by simp, .inl ⟨_, _, rfl, run_takeDeferred hK, ?_⟩⟩
    have hc5 := cell_kept (h1.at (y := .bool true) 0 rfl) (grownBy_putObj' _ D (.deferred none)) (fun r e => by cases e; exact ⟨_, hK, rfl⟩)
    refine ⟨.bool true, ?_, ?_, hB2.trans (belowK_b (w := w) (Nat.le_refl _) W D _ _ (by simp at hD; omega) hK rfl rfl)⟩
    · simp [results, Tryz.f79, go_sem, hc5]
    · obtain ⟨r, hr⟩ := hpre
      rw [Tm.comes, ← hr, List.any_append, hin]; rfl

end Go.Proofs.YtholmlkjcobkdaaGreat
