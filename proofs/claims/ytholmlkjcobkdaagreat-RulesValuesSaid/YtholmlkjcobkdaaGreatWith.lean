/- A substitution; the method 'with'. -/
import Derived.Test.YtholmlkjcobkdaaGreatOwn
import Derived.Test.YtholmlkjcobkdaaGreatMap
import Derived.Test.YtholmlkjcobkdaaGreatSize
import Derived.Deep.RegionLaw
import Derived.Deep.DeepCutAuto
import Derived.Deep.CutBlock
namespace Go.Proofs.YtholmlkjcobkdaaGreat
set_option linter.all false
set_option linter.unusedSimpArgs false
set_option linter.unusedVariables false
open Go.RowKit
set_option maxRecDepth 100000

/-- A term with other terms in the place of its variables. -/
def Tm.sub (σ : Fin 3 → Option Tm) : Tm → Tm
  | .v i => (σ i).getD (.v i)
  | .k b => .k b
  | .u b t => .u b (t.sub σ)
  | .p b s t => .p b (s.sub σ) (t.sub σ)

/-- The map m stands for the substitution. -/
def IsSub (S : Nat → Prop) (w : World) (m : List (Fin 3 × Value)) (σ : Fin 3 → Option Tm) : Prop :=
  ∀ i, (getA i m = none ∧ σ i = none) ∨ ∃ x t, getA i m = some x ∧ σ i = some t ∧ IsT S w t x

theorem IsSub.keep {S S' : Nat → Prop} {w w' : World} {m : List (Fin 3 × Value)} {σ : Fin 3 → Option Tm} (h : ∀ a o y, S a → w.cell? ⟨a, o, none⟩ = some y → w'.cell? ⟨a, o, none⟩ = some y ∧ S' a)
    (hs : IsSub S w m σ) : IsSub S' w' m σ := fun i => (hs i).imp id fun ⟨x, t, h1, h2, h3⟩ => ⟨x, t, h1, h2, h3.keep h⟩

theorem zero_term (w : World) : (zeroValue 99).run Tryz.prog w = .ok .nilIface w := by kernel_rfl

/-- What the method 'with' hands back: a term that shares memory with the substitution at most. -/
def Withs (S : Nat → Prop) (w : World) (t : Tm) (e : Ending) (w' : World) : Prop :=
  ∃ T y, e = .returned (.iface T y) ∧ IsT (fun b => S b ∨ w.heap.size ≤ b) w' t (.iface T y) ∧ Ext w w'

theorem with_v (S : Nat → Prop) (i : Fin 3) (M : Nat) (m : List (Fin 3 × Value)) (σ : Fin 3 → Option Tm) (w : World) (hm : Mp encV w M m) (hs : IsSub S w m σ) :
    Calls Tryz.prog 191 #[.int .u8 (vI i), .map (some M)] w (Withs S w ((Tm.v i).sub σ)) := by
  have HM := Lib.hid hm
  rcases hs i with ⟨h1, h2⟩ | ⟨x, t, h1, h2, h3⟩
  · have H2 := Lib.hid h2
    have e : (.tuple #[(getA i m).getD .nilIface, .bool (getA i m).isSome] : Value) = .tuple #[.nilIface, .bool false] := by rw [h1]; rfl
    have HE := Lib.hid e
    clear hm hs h1 h2 e
    go_enter Tryz.func191, Tryz.ntmps191
    go_wp2_with (refine wpList_look_ok keysV (by kernel_rfl) zero_term HM.out i rfl rfl ?_; rw [HE.out])
    go_ret
    exact ⟨_, _, rfl, by simp only [Tm.sub, H2.out]; rfl, Ext.refl _⟩
  · have H2 := Lib.hid h2
    have H3 := Lib.hid h3
    obtain ⟨T, y, rfl⟩ := h3.iface
    have e : (.tuple #[(getA i m).getD .nilIface, .bool (getA i m).isSome] : Value) = .tuple #[.iface T y, .bool true] := by rw [h1]; rfl
    have HE := Lib.hid e
    clear hm hs h1 h2 e h3
    go_enter Tryz.func191, Tryz.ntmps191
    go_wp2_with (refine wpList_look_ok keysV (by kernel_rfl) zero_term HM.out i rfl rfl ?_; rw [HE.out])
    go_ret
    exact ⟨_, _, rfl, by simp only [Tm.sub, H2.out]; exact H3.out.mono fun b hb => .inl hb, Ext.refl _⟩

theorem with_k (S : Nat → Prop) (c : Int) (mv : Value) (w : World) :
    Calls Tryz.prog 194 #[.agg #[.int .u8 c, .slice none 0 0], mv] w fun e w' => e = .returned (tC c (.slice none 0 0)) ∧ Ext w w' := by
  go_enter Tryz.func194, Tryz.ntmps194
  go_wp2
  refine wp_loop_rounds 1 ?_
  rw [rounds_succ]
  go_wp2
  go_ret
  exact ⟨rfl, ((Ext.new w _).alloc _)⟩

/-- The parts so far, each with the substitution, in the term in block B. -/
def WPart (S : Nat → Prop) (w0 : World) (B : Nat) (c : Int) (ts : List Tm) (wc : World) : Prop :=
  ∃ v, Bx wc B #[.int .u8 c, v] 149 ∧ OwnT (B + 1) (fun b => S b ∨ B < b) wc v ts ∧ Ext w0 wc

theorem wpart_done {S : Nat → Prop} {w0 w5 w6 w7 : World} {B : Nat} {c : Int} {t : Tm} {ts : List Tm} {xs : List Value} {v x v7 : Value}
    (hS : ∀ b, S b → b < B) (hB : w0.heap.size ≤ B) (h05 : Ext w0 w5) (h56 : Ext w5 w6) (hlt : B < w5.heap.size) (hx : IsT (fun b => S b ∨ w5.heap.size ≤ b) w6 t x)
    (hbx : Bx w7 B #[.int .u8 c, v] 149) (hown : w5.ownsRow (B + 1) 99 1 v ts.length xs)
    (hall : AllT (fun b => (S b ∨ B < b) ∧ some b ≠ v.ownBlock) w5 ts xs) (hp : Pushed w6 (B + 1) 99 v ts.length xs x v7 w7) : WPart S w0 B c (ts ++ [t]) (w7.setCell ⟨B, 1, none⟩ v7) := by
  have hvr : ∀ k, v.ownBlock = some k → B < k ∧ k < w5.heap.size := fun k hk => by have := hown.lt k hk; omega
  have h67 := hp.2.1
  have hx6 : IsT (fun b => (S b ∨ B < b) ∧ some b ≠ v.ownBlock) w6 t x :=
    hx.mono fun b hb => ⟨hb.imp id (fun h => by omega), fun e => by
      have := hvr b e.symm
      rcases hb with hb | hb
      · have := hS b hb; omega
      · omega⟩
  have hown7 : OwnT (B + 1) (fun b => S b ∨ B < b) w7 v7 (ts ++ [t]) := OwnT.push (hall.ext h56) hx6 hp
  have hset : ∀ b, B ≠ b → (w7.setCell ⟨B, 1, none⟩ v7).heap[b]? = w7.heap[b]? := fun b hb => Below.heap_setCell _ _ _ _ (fun e => hb e.symm)
  refine ⟨v7, hbx.set 1 v7, ?_, ?_⟩
  · exact hown7.keep (fun k hk => hset k (by have := (hown7.lt k hk).1; omega)) (fun b hb _ => ⟨hset b (by
      rcases hb with hb | hb
      · have := hS b hb; omega
      · omega), hb⟩)
  · exact ((h05.trans h56).grown h67 (fun k hk => by have := (hvr k hk).1; omega)).grown (grown_set _ _ _) (some_le hB)

set_option maxHeartbeats 1000000 in
theorem with_u (S : Nat → Prop) (b : Bool) (a o cap : Nat) (x : Value) (t : Tm) (mv : Value) (w : World) (hS : ∀ b, S b → b < w.heap.size) (hc : w.cell? ⟨a, o, none⟩ = some x)
    (hx : ∀ w', Ext w w' → Invokes x "numnah/rules.with" #[mv] w' (Withs S w' t)) :
    Calls Tryz.prog 194 #[.agg #[.int .u8 (uI b), .slice (some ⟨a, o, none⟩) 1 cap], mv] w (Withs S w (.u b t)) := by
  have ha := lt_of_cell hc
  have IH := Lib.hid hx
  have HS := Lib.hid hS
  clear hx hS
  generalize hC : uI b = c
  have HC := Lib.hid hC
  clear hC
  go_enter Tryz.func194, Tryz.ntmps194
  go_wp2
  refine wp_loop_rounds 2 ?_
  rw [rounds_succ]
  go_upto_block 1 with (fail)
  have hbx : Bx ((w.alloc (.cells #[.int .u8 c, .slice (some ⟨a, o, none⟩) 1 cap] 149)).alloc (.cells #[.int .u8 c, .slice none 0 0] 149)) (w.heap.size + 1) #[.int .u8 c, .slice none 0 0] 149 := by
    simpa using Bx.new (w.alloc (.cells #[.int .u8 c, .slice (some ⟨a, o, none⟩) 1 cap] 149)) #[.int .u8 c, .slice none 0 0] 149
  have hE := Lib.hid ((Ext.new w (.cells #[.int .u8 c, .slice (some ⟨a, o, none⟩) 1 cap] 149)).alloc (.cells #[.int .u8 c, .slice none 0 0] 149))
  generalize (w.alloc (.cells #[.int .u8 c, .slice (some ⟨a, o, none⟩) 1 cap] 149)).alloc (.cells #[.int .u8 c, .slice none 0 0] 149) = W at hbx hE ⊢
  have hwB : w.heap.size ≤ w.heap.size + 1 := Nat.le_succ _
  have hlt := hbx.lt
  generalize w.heap.size + 1 = B at hbx hwB hlt ⊢
  have HX := Lib.hid hbx
  have c1 := hbx.cell 1
  have hcW := hE.out.cell hc
  simp only [List.getElem?_toArray, List.getElem?_cons_succ, List.getElem?_cons_zero] at c1
  clear hbx hc
  go_cut [7] (fun _ wc => WPart S w B c [t] wc)
  case first =>
    go_wp2_with fail
    go_region_law (first
      | (refine step_invoke1 x mv (by rfl) (by rfl) ?_; refine (IH.out W.drew hE.out.drew).mono ?_; rintro e w6 ⟨T, y, rfl, ht, hE6⟩; have HX6 := Lib.hid (HX.out.ext hE6.undrew); have c6 := HX6.out.cell 1; simp only [List.getElem?_toArray, List.getElem?_cons_succ, List.getElem?_cons_zero] at c6; have hlt6 : B < w6.heap.size := HX6.out.lt; have HE6 := Lib.hid hE6.undrew; have HT6 := Lib.hid ht; clear hE6 ht)
      | (refine steppush_term (B + 1) (.slice none 0 0) 0 [] (.iface T y) (by rfl) (World.ownsRow_nil _ _ _ _) (by rfl) rfl (by decide) (by omega) ?_; rintro v7 w7 ⟨h71, h72, g, cap', rfl, hgl, hgs⟩; have HX7 := Lib.hid (HX6.out.grown h72 (by simp [Value.ownBlock])); have c7 := HX7.out.cell 1; have f7 := HX7.out.free 1; simp only [List.getElem?_toArray, List.getElem?_cons_succ, List.getElem?_cons_zero] at c7; have HP7 : Hid (Pushed w6 (B + 1) 99 (.slice none 0 0) 0 [] (.iface T y) (.slice (some ⟨g, 0, none⟩) (0 + 1) cap') w7) := Lib.hid ⟨h71, h72, g, cap', rfl, hgl, hgs⟩; clear h71 h72 hgl hgs))
    all_goals
      go_wp2_with fail
      go_meet
      exact wpart_done (ts := []) (fun b hb => Nat.lt_of_lt_of_le (HS.out b hb) hwB) hwB hE.out HE6.out hlt HT6.out HX7.out (World.ownsRow_nil _ _ _ _) trivial HP7.out
  case rest =>
    obtain ⟨v, hbx, ⟨xs, hown, hall⟩, hEc⟩ := hcut
    obtain ⟨g, cap', rfl, hgB, hgl, hcap, hcell, -⟩ := owns_form hown (by simp)
    obtain ⟨x', hx', ht⟩ := hall.get 0 t rfl
    have hres : IsT (fun b => S b ∨ w.heap.size ≤ b) wc (.u b t) (tC c (.slice (some ⟨g, 0, none⟩) 1 cap')) :=
      ⟨g, 0, cap', x', congrArg (fun c => tC c _) HC.out.symm, .inr (by omega), hcell 0 x' hx', ht.mono fun b hb => hb.1.imp id (fun h => Nat.le_trans hwB (Nat.le_of_lt h))⟩
    have HR := Lib.hid hres
    have HE := Lib.hid hEc
    have d0 := hbx.cell 0
    have d1 := hbx.cell 1
    simp only [List.getElem?_toArray, List.getElem?_cons_succ, List.getElem?_cons_zero, List.length_nil, List.length_cons] at d0 d1
    clear hbx hown hall hEc hcell hx' ht hres c1 hcW
    go_wp2_with fail
    rw [rounds_succ]
    go_wp2_with fail
    go_ret
    exact ⟨_, _, rfl, HR.out, HE.out⟩
set_option maxHeartbeats 4000000 in
theorem with_p (S : Nat → Prop) (b : Bool) (a o cap : Nat) (x z : Value) (s t : Tm) (mv : Value) (w : World) (hS : ∀ b, S b → b < w.heap.size) (hc : w.cell? ⟨a, o, none⟩ = some x) (hd : w.cell? ⟨a, o + 1, none⟩ = some z)
    (hx : ∀ w', Ext w w' → Invokes x "numnah/rules.with" #[mv] w' (Withs S w' s))
    (hz : ∀ w', Ext w w' → Invokes z "numnah/rules.with" #[mv] w' (Withs S w' t)) :
    Calls Tryz.prog 194 #[.agg #[.int .u8 (pI b), .slice (some ⟨a, o, none⟩) 2 cap], mv] w (Withs S w (.p b s t)) := by
  have ha := lt_of_cell hc
  have IH := Lib.hid hx
  have IH2 := Lib.hid hz
  have HS := Lib.hid hS
  clear hx hz hS
  generalize hC : pI b = c
  have HC := Lib.hid hC
  clear hC
  go_enter Tryz.func194, Tryz.ntmps194
  go_wp2
  refine wp_loop_rounds 3 ?_
  rw [rounds_succ]
  go_upto_block 1 with (fail)
  have hbx : Bx ((w.alloc (.cells #[.int .u8 c, .slice (some ⟨a, o, none⟩) 2 cap] 149)).alloc (.cells #[.int .u8 c, .slice none 0 0] 149)) (w.heap.size + 1) #[.int .u8 c, .slice none 0 0] 149 := by
    simpa using Bx.new (w.alloc (.cells #[.int .u8 c, .slice (some ⟨a, o, none⟩) 2 cap] 149)) #[.int .u8 c, .slice none 0 0] 149
  have hE := Lib.hid ((Ext.new w (.cells #[.int .u8 c, .slice (some ⟨a, o, none⟩) 2 cap] 149)).alloc (.cells #[.int .u8 c, .slice none 0 0] 149))
  generalize (w.alloc (.cells #[.int .u8 c, .slice (some ⟨a, o, none⟩) 2 cap] 149)).alloc (.cells #[.int .u8 c, .slice none 0 0] 149) = W at hbx hE ⊢
  have hwB : w.heap.size ≤ w.heap.size + 1 := Nat.le_succ _
  have hlt := hbx.lt
  generalize w.heap.size + 1 = B at hbx hwB hlt ⊢
  have HX := Lib.hid hbx
  have c1 := hbx.cell 1
  have hcW := hE.out.cell hc
  simp only [List.getElem?_toArray, List.getElem?_cons_succ, List.getElem?_cons_zero] at c1
  clear hbx hc
  have HD := Lib.hid hd
  clear hd
  go_cut [7] (fun _ wc => WPart S w B c [s] wc)
  case first =>
    go_wp2_with fail
    go_region_law (first
      | (refine step_invoke1 x mv (by rfl) (by rfl) ?_; refine (IH.out W.drew hE.out.drew).mono ?_; rintro e w6 ⟨T, y, rfl, ht, hE6⟩; have HX6 := Lib.hid (HX.out.ext hE6.undrew); have c6 := HX6.out.cell 1; simp only [List.getElem?_toArray, List.getElem?_cons_succ, List.getElem?_cons_zero] at c6; have hlt6 : B < w6.heap.size := HX6.out.lt; have HE6 := Lib.hid hE6.undrew; have HT6 := Lib.hid ht; clear hE6 ht)
      | (refine steppush_term (B + 1) (.slice none 0 0) 0 [] (.iface T y) (by rfl) (World.ownsRow_nil _ _ _ _) (by rfl) rfl (by decide) (by omega) ?_; rintro v7 w7 ⟨h71, h72, g, cap', rfl, hgl, hgs⟩; have HX7 := Lib.hid (HX6.out.grown h72 (by simp [Value.ownBlock])); have c7 := HX7.out.cell 1; have f7 := HX7.out.free 1; simp only [List.getElem?_toArray, List.getElem?_cons_succ, List.getElem?_cons_zero] at c7; have HP7 : Hid (Pushed w6 (B + 1) 99 (.slice none 0 0) 0 [] (.iface T y) (.slice (some ⟨g, 0, none⟩) (0 + 1) cap') w7) := Lib.hid ⟨h71, h72, g, cap', rfl, hgl, hgs⟩; clear h71 h72 hgl hgs))
    all_goals
      go_wp2_with fail
      go_meet
      exact wpart_done (ts := []) (fun b hb => Nat.lt_of_lt_of_le (HS.out b hb) hwB) hwB hE.out HE6.out hlt HT6.out HX7.out (World.ownsRow_nil _ _ _ _) trivial HP7.out
  case rest =>
    obtain ⟨v1, hbx, ⟨xs, hown, hall⟩, hEc⟩ := hcut
    obtain ⟨g1, cap1, rfl, hgB, hgl, hcap, -, -⟩ := owns_form hown (by simp)
    have HX := Lib.hid hbx
    have hE := Lib.hid hEc
    have HOwn := Lib.hid hown
    have HAll := Lib.hid hall
    have c1 := hbx.cell 1
    have hcW := hEc.cell HD.out
    have hlt := hbx.lt
    simp only [List.getElem?_toArray, List.getElem?_cons_succ, List.getElem?_cons_zero, List.length_nil, List.length_cons, Nat.zero_add] at c1 HX HOwn HAll
    clear hbx hown hall hEc hcap
    go_wp2_with fail
    rw [rounds_succ]
    go_upto_block 1 with (fail)
    generalize hW1 : wc = W at HX hE HOwn HAll hcW c1 hlt hgl ⊢
    clear hW1
    go_cut [7] (fun _ wc => WPart S w B c [s, t] wc)
    case first =>
      go_wp2_with fail
      go_region_law (first
        | (refine step_invoke1 z mv (by rfl) (by rfl) ?_; refine (IH2.out W.drew hE.out.drew).mono ?_; rintro e w6 ⟨T, y, rfl, ht, hE6⟩; have HX6 := Lib.hid (HX.out.ext hE6.undrew); have c6 := HX6.out.cell 1; simp only [List.getElem?_toArray, List.getElem?_cons_succ, List.getElem?_cons_zero] at c6; have hlt6 : B < w6.heap.size := HX6.out.lt; have HE6 := Lib.hid hE6.undrew; have HT6 := Lib.hid ht; clear hE6 ht)
        | (refine steppush_term (B + 1) (.slice (some ⟨g1, 0, none⟩) 1 cap1) 1 xs (.iface T y) (by rfl) (owns_ext HOwn.out HE6.out) (by rfl) rfl (by decide) (by omega) ?_; rintro v7 w7 ⟨h71, h72, g, cap', rfl, hgl, hgs⟩; have HX7 := Lib.hid (HX6.out.grown h72 (ne_some (by show B ≠ g1; omega))); have c7 := HX7.out.cell 1; have f7 := HX7.out.free 1; simp only [List.getElem?_toArray, List.getElem?_cons_succ, List.getElem?_cons_zero] at c7; have HP7 : Hid (Pushed w6 (B + 1) 99 (.slice (some ⟨g1, 0, none⟩) 1 cap1) 1 xs (.iface T y) (.slice (some ⟨g, 0, none⟩) (1 + 1) cap') w7) := Lib.hid ⟨h71, h72, g, cap', rfl, hgl, hgs⟩; clear h71 h72 hgl hgs))
      all_goals
        go_wp2_with fail
        go_meet
        exact wpart_done (ts := [s]) (fun b hb => Nat.lt_of_lt_of_le (HS.out b hb) hwB) hwB hE.out HE6.out hlt HT6.out HX7.out HOwn.out HAll.out HP7.out
    case rest =>
      clear HX hE HOwn HAll hcW c1 hlt hgB hgl
      obtain ⟨v, hbx, ⟨xs, hown, hall⟩, hEc⟩ := hcut
      obtain ⟨g, cap', rfl, hgB, hgl, hcap, hcell, -⟩ := owns_form hown (by simp)
      obtain ⟨x', hx', ht⟩ := hall.get 0 s rfl
      obtain ⟨z', hz', ht2⟩ := hall.get 1 t rfl
      have hres : IsT (fun b => S b ∨ w.heap.size ≤ b) wc (.p b s t) (tC c (.slice (some ⟨g, 0, none⟩) 2 cap')) :=
        ⟨g, 0, cap', x', z', congrArg (fun c => tC c _) HC.out.symm, .inr (by omega), hcell 0 x' hx', hcell 1 z' hz', ht.mono fun b hb => hb.1.imp id (fun h => Nat.le_trans hwB (Nat.le_of_lt h)), ht2.mono fun b hb => hb.1.imp id (fun h => Nat.le_trans hwB (Nat.le_of_lt h))⟩
      have HR := Lib.hid hres
      have HE := Lib.hid hEc
      have d0 := hbx.cell 0
      have d1 := hbx.cell 1
      simp only [List.getElem?_toArray, List.getElem?_cons_succ, List.getElem?_cons_zero, List.length_nil, List.length_cons] at d0 d1
      clear hbx hown hall hEc hcell hx' ht hres hz' ht2
      go_wp2_with fail
      rw [rounds_succ]
      go_wp2_with fail
      go_ret
      exact ⟨_, _, rfl, HR.out, HE.out⟩

theorem meth_with_v (n : Int) (mv : Value) (w : World) : (callMethod (.iface 131 (.int .u8 n)) "numnah/rules.with" #[mv]).run Tryz.prog w = .ok (.enter 191 #[.int .u8 n, mv]) w := by kernel_rfl
theorem meth_with_c (n : Int) (x mv : Value) (w : World) : (callMethod (tC n x) "numnah/rules.with" #[mv]).run Tryz.prog w = .ok (.enter 194 #[.agg #[.int .u8 n, x], mv]) w := by kernel_rfl

theorem with_below {S S' : Nat → Prop} (σ : Fin 3 → Option Tm) (M : Nat) (m : List (Fin 3 × Value)) : ∀ (t : Tm) (x : Value) (w : World), Mp encV w M m → IsSub S w m σ → (∀ b, S b → b < w.heap.size) → IsT S' w t x →
    Invokes x "numnah/rules.with" #[.map (some M)] w (Withs S w (t.sub σ)) := by
  intro t
  induction t with
  | v i => rintro x w hm hs _ rfl; exact ⟨_, _, meth_with_v _ _ _, with_v S i M m σ w hm hs⟩
  | k b =>
    rintro x w hm hs _ rfl
    refine ⟨_, _, meth_with_c _ _ _ _, (with_k S _ _ w).mono ?_⟩
    rintro e w' ⟨rfl, hE⟩
    exact ⟨_, _, rfl, rfl, hE⟩
  | u b t ih =>
    rintro x w hm hs hS ⟨a, o, cap, y, rfl, -, hc, ht⟩
    exact ⟨_, _, meth_with_c _ _ _ _, with_u S b a o cap y _ _ w hS hc fun w' he => ih y w' (hm.ext he) (hs.keep fun _ _ _ h1 h2 => ⟨he.cell h2, h1⟩) (fun b hb => Nat.lt_of_lt_of_le (hS b hb) he.size) (ht.ext he)⟩
  | p b s t ihs iht =>
    rintro x w hm hs hS ⟨a, o, cap, y, z, rfl, -, hc, hd, hs', ht⟩
    exact ⟨_, _, meth_with_c _ _ _ _, with_p S b a o cap y z _ _ _ w hS hc hd
      (fun w' he => ihs y w' (hm.ext he) (hs.keep fun _ _ _ h1 h2 => ⟨he.cell h2, h1⟩) (fun b hb => Nat.lt_of_lt_of_le (hS b hb) he.size) (hs'.ext he))
      (fun w' he => iht z w' (hm.ext he) (hs.keep fun _ _ _ h1 h2 => ⟨he.cell h2, h1⟩) (fun b hb => Nat.lt_of_lt_of_le (hS b hb) he.size) (ht.ext he))⟩

/-- The method 'with' of whatever stands for a term, at whatever stands for a substitution. -/
theorem with_inv {S S' : Nat → Prop} {σ : Fin 3 → Option Tm} {M : Nat} {m : List (Fin 3 × Value)} {t : Tm} {x : Value} {w : World} (hm : Mp encV w M m) (hs : IsSub S w m σ) (ht : IsT S' w t x) :
    Invokes x "numnah/rules.with" #[.map (some M)] w (Withs S w (t.sub σ)) := by
  refine (with_below (S := fun b => S b ∧ b < w.heap.size) σ M m t x w hm (hs.keep fun a o y h1 h2 => ⟨h2, h1, lt_of_cell h2⟩) (fun b h => h.2) ht).mono ?_
  rintro e w' ⟨T, y, rfl, h1, h2⟩
  exact ⟨T, y, rfl, h1.mono fun b hb => hb.imp And.left id, h2⟩

end Go.Proofs.YtholmlkjcobkdaaGreat
