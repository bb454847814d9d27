/- IsLoop. -/
import Derived.Test.YtholmlkjcobkdaaGreatLeads
namespace Go.Proofs.YtholmlkjcobkdaaGreat
set_option linter.all false
set_option linter.unusedSimpArgs false
set_option linter.unusedVariables false
open Go.RowKit
set_option maxRecDepth 100000

/-- A list of strings that is read. -/
def IsSs (w : World) (v : Value) (l : List Str) : Prop := ∃ p cap, v = .slice p l.length cap ∧ l.length ≤ cap ∧ ∀ j s, l[j]? = some s → ∃ a o, p = some ⟨a, o, none⟩ ∧ w.cell? ⟨a, o + j, none⟩ = some (encS s)

theorem IsSs.keep {w w' : World} {v : Value} {l : List Str} (h : ∀ a o y, w.cell? ⟨a, o, none⟩ = some y → w'.cell? ⟨a, o, none⟩ = some y) (hr : IsSs w v l) : IsSs w' v l := by
  obtain ⟨p, cap, h1, h2, h3⟩ := hr
  refine ⟨p, cap, h1, h2, fun j s hj => ?_⟩
  obtain ⟨a, o, ha, hc⟩ := h3 j s hj
  exact ⟨a, o, ha, h _ _ _ hc⟩
theorem IsSs.ext {w w' : World} {v : Value} {l : List Str} (he : Ext w w') (h : IsSs w v l) : IsSs w' v l := h.keep fun _ _ _ hc => he.cell hc
theorem IsSs.slice {w : World} {v : Value} {l : List Str} (h : IsSs w v l) : ∃ p c, v = .slice p l.length c := by obtain ⟨p, c, h, -⟩ := h; exact ⟨p, c, h⟩

/-- Whether terms are a loop. -/
def loopT (ls : List (Tm × Tm)) (ts : List Tm) : Prop :=
  1 < ts.length ∧ (∀ (i : Nat) (a b : Tm), ts[i]? = some a → ts[i + 1]? = some b → b ∈ nexts ls a) ∧ ∀ a b : Tm, ts[0]? = some a → ts[ts.length - 1]? = some b → a.comes b = true

open Classical in
noncomputable def isLoopR (rs : List (Str × Str)) (l : List Str) : Except Int Unit :=
  match okLaws rs with
  | none => .error 2
  | some ls => match l.mapM Tm.parse with
    | none => .error 4
    | some ts => if ts.length ≤ 20 then (if loopT ls ts then .ok () else .error 10) else .error 2

theorem isLoopR_no {rs : List (Str × Str)} {l : List Str} (h : okLaws rs = none) : isLoopR rs l = .error 2 := by simp [isLoopR, h]
theorem isLoopR_bad {rs : List (Str × Str)} {ls : List (Tm × Tm)} {l : List Str} (h : okLaws rs = some ls) (h2 : l.mapM Tm.parse = none) : isLoopR rs l = .error 4 := by simp [isLoopR, h, h2]
theorem isLoopR_many {rs : List (Str × Str)} {ls : List (Tm × Tm)} {l : List Str} {ts : List Tm} (h : okLaws rs = some ls) (h2 : l.mapM Tm.parse = some ts) (h3 : ¬ ts.length ≤ 20) : isLoopR rs l = .error 2 := by simp [isLoopR, h, h2, h3]
theorem isLoopR_not {rs : List (Str × Str)} {ls : List (Tm × Tm)} {l : List Str} {ts : List Tm} (h : okLaws rs = some ls) (h2 : l.mapM Tm.parse = some ts) (h3 : ts.length ≤ 20) (h4 : ¬ loopT ls ts) : isLoopR rs l = .error 10 := by simp [isLoopR, h, h2, h3, h4]
theorem isLoopR_yes {rs : List (Str × Str)} {ls : List (Tm × Tm)} {l : List Str} {ts : List Tm} (h : okLaws rs = some ls) (h2 : l.mapM Tm.parse = some ts) (h3 : ts.length ≤ 20) (h4 : loopT ls ts) : isLoopR rs l = .ok () := by simp [isLoopR, h, h2, h3, h4]

theorem mapM_get {α β : Type} (f : α → Option β) : ∀ (l : List α) (ls : List β), l.mapM f = some ls → ∀ (i : Nat) (b : β), ls[i]? = some b → ∃ a, l[i]? = some a ∧ f a = some b
  | [], ls, h, i, b, hb => by simp at h; subst h; simp at hb
  | a :: l, ls, h, i, b, hb => by
    rw [List.mapM_cons] at h
    cases ha : f a with
    | none => rw [ha] at h; cases h
    | some a' =>
      rw [ha] at h
      cases hm : l.mapM f with
      | none => rw [hm] at h; cases h
      | some ls' =>
        rw [hm] at h
        cases h
        match i, hb with
        | 0, hb => simp at hb; subst hb; exact ⟨a, rfl, ha⟩
        | i + 1, hb => simp at hb; simpa using mapM_get f l ls' hm i b hb

theorem slice_terms (a o n cap : Nat) (hn : 1 < n) (hc : n ≤ cap) : ∀ W : World, (Instr.sliceAt 111 (.slice (some ⟨a, o, none⟩) n cap) (some (.int .i64 1)) none none).run Tryz.prog W = .ok (.slice (some ⟨a, o + 1, none⟩) (n - 1) (cap - 1)) W := by
  have hz : ∀ W, (sizeOf (Tryz.prog.elem 111)).run Tryz.prog W = .ok 1 W := fun W => by kernel_rfl
  intro W
  rw [run_sliceAt_slice W _ _ _ _ _ (by kernel_rfl), run_slice_l W _ _ _ _ (by kernel_rfl) _ _ (by omega) (by omega), hz]
  have h1 : ¬ cap = 1 := by omega
  simp [Result.andThen, sliced, h1, Addr.add]

set_option maxHeartbeats 8000000 in
theorem isLoop1_any (rs : List (Str × Str)) (l : List Str) (R L : Nat) (v lv : Value) (W : World) (hn : l.length ≤ 1000) (hR : Bx W R #[v] 35) (hr : IsRules W v rs) (hL : Bx W L #[lv] 36) (hl : IsSs W lv l) :
    Calls Tryz.prog 76 #[.pointer (some ⟨R, 0, none⟩), .pointer (some ⟨L, 0, none⟩)] W (RanE (isLoopR rs l) W) := by
  have hLw := newLaws_any rs v W hr
  obtain ⟨p, c, rfl⟩ := hr.slice
  have HSs := Lib.hid hl
  obtain ⟨q, cq, rfl, hcq, hcell⟩ := hl
  have c0 := hR.at 0 (y := .slice p rs.length c) rfl
  have HL := Lib.hid hLw
  have HB := Lib.hid hL
  have HCell := Lib.hid hcell
  have hrd : ∀ (l : Str) W, Calls Tryz.prog 69 #[encS l] W (ReadsStr W (Tm.parse l)) := fun l W => read_any l W
  have HRd := Lib.hid hrd
  clear hLw hr hR hL hrd hcell
  go_enter Tryz.func76, Tryz.ntmps76
  go_wp2_with ((with_reducible refine HL.out.mono ?_); clear HL; rintro e w1 (⟨ls, v1, ho, rfl, hE, hls⟩ | ⟨ho, rfl, hE⟩); rotate_left; exact ⟨rfl, .inr ⟨2, isLoopR_no ho, rfl, hE⟩⟩; have HLs := Lib.hid hls; have HE := Lib.hid hE; have HO1 := Lib.hid ho; have l0 := (HB.out.ext hE).at 0 (y := .slice q l.length cq) rfl; clear ho hE hls)
  clear c0 l0
  go_loopg [3, 12] l.length (fun k v i wr => ∃ d ts, d + k = l.length ∧ i = .int .i64 d ∧ (l.take d).mapM Tm.parse = some ts ∧ OwnT w1.heap.size Any wr v ts ∧ Ext w1 wr)
  case atStart => exact ⟨0, [], by simp, rfl, rfl, OwnT.nil _ _ _, Ext.refl _⟩
  case round =>
    obtain ⟨d, ts, hd, rfl, hm, hown, hE⟩ := hrel
    have HM := Lib.hid hm
    have HOwn := Lib.hid hown
    have HEr := Lib.hid hE
    clear hm hown hE
    cases gk with
    | succ k =>
      have hdl : d < l.length := by omega
      have hdl' : (d : Int) < (l.length : Int) := by omega
      have hd2 : (d : Int) + 1 ≤ 1001 := by omega
      obtain ⟨s, hs⟩ : ∃ s, l[d]? = some s := ⟨_, List.getElem?_eq_getElem hdl⟩
      obtain ⟨a, o, rfl, hc⟩ := HCell.out d s hs
      have hc' := (HE.out.trans HEr.out).cell hc
      have HS := Lib.hid hs
      have htl := mapM_length _ _ _ HM.out
      have htn : ts.length ≤ 1000000000 := by rw [List.length_take] at htl; omega
      have hlt := HOwn.out.lt
      have HLt := Lib.hid hlt
      clear hc hs hlt htl
      obtain ⟨xs, hown, hat⟩ := HOwn.out
      have HXs := Lib.hid hown
      have HAt := Lib.hid hat
      clear hown hat
      go_wp2_with (first
        | ((with_reducible refine (HRd.out s wr).mono ?_); rintro e w2 (⟨t, T, y, ho, rfl, hE, ht⟩ | ⟨ho, rfl, hE⟩); rotate_left; exact ⟨rfl, .inr ⟨4, isLoopR_bad HO1.out (mapM_none _ _ d s HS.out ho), rfl, (HE.out.trans HEr.out).trans hE⟩⟩; have HE2 := Lib.hid hE; have HT := Lib.hid ht; have HO := Lib.hid ho; have HXs2 := Lib.hid (owns_ext HXs.out hE); have hb2 : w1.heap.size ≤ w2.heap.size := (HEr.out.trans hE).size; clear ho hE ht)
        | ((refine push_term w1.heap.size u3 ts.length xs (.iface T y) (by rfl) HXs2.out (by rfl) rfl htn hb2 ?_); rintro v7 w7 ⟨h71, h72, g, cap, rfl, hgl, hgs⟩; have HP : Hid (Pushed w2 w1.heap.size 99 u3 ts.length xs (.iface T y) (.slice (some ⟨g, 0, none⟩) (ts.length + 1) cap) w7) := Lib.hid ⟨h71, h72, g, cap, rfl, hgl, hgs⟩; clear h71 h72 hgl hgs))
      go_roundg k
      case measure => omega
      case rel =>
        refine ⟨d + 1, ts ++ [t], by omega, congrArg (Value.int .i64) (by omega), mapM_snoc _ _ _ _ _ _ HS.out HO.out HM.out, ?_, ?_⟩
        · refine OwnT.push (HAt.out.ext HE2.out) (HT.out.mono fun b hb => ⟨trivial, fun e => ?_⟩) HP.out
          have := (HLt.out b e.symm).2
          omega
        · exact (HEr.out.trans HE2.out).grown HP.out.2.1 fun b e => (HLt.out b e).1
    | zero =>
      obtain rfl : d = l.length := by omega
      have hm := HM.out
      rw [List.take_length] at hm
      have hlen := mapM_length _ _ _ hm
      have HM' := Lib.hid hm
      have hEw := HE.out.trans HEr.out
      have l0 := (HB.out.ext hEw).at 0 (y := .slice q l.length cq) rfl
      obtain ⟨p3, c3, rfl⟩ := HOwn.out.slice
      have HEw := Lib.hid hEw
      have hparse : ∀ t ∈ ts, t.size ≤ 60 := by
        intro t ht
        obtain ⟨i, hi⟩ := List.mem_iff_getElem?.1 ht
        obtain ⟨s, -, hp⟩ := mapM_get _ _ _ hm i t hi
        exact ((Tm.parse_iff _ _).1 hp).2
      have HParse := Lib.hid hparse
      clear hm hEw HM hparse
      by_cases h20 : l.length ≤ 20
      rotate_left
      · have g1 : (decide ((l.length : Int) ≤ 20)) = false := decide_eq_false (by omega)
        go_wp2_with fail
        refine (demand_no _ _).mono ?_
        rintro e w2 ⟨rfl, rfl⟩
        exact ⟨rfl, .inr ⟨2, isLoopR_many HO1.out HM'.out (by omega), rfl, HEw.out⟩⟩
      have g1 : (decide ((l.length : Int) ≤ 20)) = true := decide_eq_true (by omega)
      by_cases h1 : 1 < l.length
      rotate_left
      · have g2 : (decide ((1 : Int) < (l.length : Int))) = false := decide_eq_false (by omega)
        go_wp2_with ((with_reducible refine (demand_yes _ _).mono ?_); rintro e w2 ⟨rfl, rfl⟩)
        refine (demand_no _ _).mono ?_
        rintro e w2 ⟨rfl, rfl⟩
        exact ⟨rfl, .inr ⟨10, isLoopR_not HO1.out HM'.out (by omega) (fun h => by have := h.1; omega), rfl, HEw.out⟩⟩
      have g2 : (decide ((1 : Int) < (l.length : Int))) = true := decide_eq_true (by omega)
      obtain ⟨a, o, cap, xs, hv, halt, hcell, hall⟩ : ∃ a o cap xs, (Value.slice p3 ts.length c3 : Value) = .slice (some ⟨a, o, none⟩) ts.length cap ∧ ts.length ≤ cap ∧ (∀ (j : Nat) (x : Value), xs[j]? = some x → wr.cell? ⟨a, o + j, none⟩ = some x) ∧ AllT Any wr ts xs := by
        obtain ⟨xs, ho1, ho2⟩ := HOwn.out
        obtain ⟨g, cap, hv, hb, hl, hc, hcell, -⟩ := owns_form ho1 (by omega)
        exact ⟨g, 0, cap, xs, hv, hc, fun j x hj => by rw [Nat.zero_add]; exact hcell j x hj, ho2.mono fun _ _ => trivial⟩
      cases hv
      have hsl := slice_terms a o ts.length c3 (by omega) halt
      have HCl := Lib.hid hcell
      have HAll := Lib.hid hall
      have htn : ts.length ≤ 20 := by omega
      have hsz1 : ((ts.length - 1 : Nat) : Int) = (ts.length : Int) - 1 := by omega
      have HLn := Lib.hid hlen
      have HSz1 := Lib.hid hsz1
      have hts1 : 1 < ts.length := by omega
      clear hcell hall hlen hsz1
      go_wp2_with ((with_reducible refine (demand_yes _ _).mono ?_); rintro e w2 ⟨rfl, rfl⟩)
      clear hsl g1 g2 l0
      obtain ⟨W1, rfl⟩ : ∃ W1 : World, W1 = wr := ⟨_, rfl⟩
      go_loopg [33] (ts.length - 1) (fun k i wr => ∃ d, d + k = ts.length - 1 ∧ i = .int .i64 d ∧ Ext W1 wr ∧ ∀ i : Nat, i < d → ∀ a b, ts[i]? = some a → ts[i + 1]? = some b → b ∈ nexts ls a)
      case atStart => exact ⟨0, by simp, rfl, Ext.refl _, fun i h => absurd h (Nat.not_lt_zero _)⟩
      case round =>
        obtain ⟨d, hd, rfl, hE, hch⟩ := hrel
        have HE2 := Lib.hid hE
        have HCh := Lib.hid hch
        clear hE hch
        cases gk with
        | succ k =>
          have hdl : d < ts.length - 1 := by omega
          have hdl' : (d : Int) < ((ts.length - 1 : Nat) : Int) := by omega
          have hdl'' : (d : Int) < (ts.length : Int) := by omega
          have hd2 : (d : Int) + 1 ≤ 20 := by omega
          obtain ⟨t1, ht1⟩ : ∃ u, ts[d]? = some u := ⟨_, List.getElem?_eq_getElem (by omega)⟩
          obtain ⟨t2, ht2⟩ : ∃ u, ts[d + 1]? = some u := ⟨_, List.getElem?_eq_getElem (by omega)⟩
          obtain ⟨x1, hx1, hs1⟩ := HAll.out.get d t1 ht1
          obtain ⟨x2, hx2, hs2⟩ := HAll.out.get (d + 1) t2 ht2
          obtain ⟨T1, x1, rfl⟩ := hs1.iface
          obtain ⟨T2, x2, rfl⟩ := hs2.iface
          have e1 := HE2.out.cell (HCl.out d _ hx1)
          have e2 := HE2.out.cell (HCl.out (d + 1) _ hx2)
          rw [show o + (d + 1) = o + 1 + d by omega] at e2
          have HLd := Lib.hid (leads_any ls (okLaws_small HO1.out).1 (fun l hl => ((okLaws_spec HO1.out).2 l hl).2.2.1) v1 t1 t2 _ _ wr (HParse.out t1 (List.mem_of_getElem? ht1)) (HParse.out t2 (List.mem_of_getElem? ht2)) (((HLs.out.ext (HEr.out.trans HE2.out))).keep (Nat.le_refl _) (fun _ _ _ h => h) fun _ _ => trivial) (hs1.ext HE2.out) (hs2.ext HE2.out))
          have HT1 := Lib.hid ht1
          have HT2 := Lib.hid ht2
          clear ht1 ht2 hx1 hx2 hs1 hs2
          go_wp2_with ((with_reducible refine HLd.out.mono ?_); clear HLd; rintro e w3 ⟨rfl, hE3⟩; have HE3 := Lib.hid (HE2.out.trans hE3); clear hE3)
          by_cases hin : t2 ∈ nexts ls t1
          · rw [decide_eq_true hin]
            refine (demand_yes _ _).mono ?_
            rintro e w4 ⟨rfl, rfl⟩
            have HIn := Lib.hid hin
            clear hin
            go_wp2_with fail
            go_roundg k
            case measure => omega
            case rel =>
              refine ⟨d + 1, by omega, congrArg (Value.int .i64) (by omega), HE3.out, fun i hi a b ha hb => ?_⟩
              by_cases hid : i < d
              · exact HCh.out i hid a b ha hb
              · obtain rfl : i = d := by omega
                obtain rfl : t1 = a := Option.some.inj (HT1.out.symm.trans ha)
                obtain rfl : t2 = b := Option.some.inj (HT2.out.symm.trans hb)
                exact HIn.out
          · rw [decide_eq_false hin]
            refine (demand_no _ _).mono ?_
            rintro e w4 ⟨rfl, rfl⟩
            exact ⟨rfl, .inr ⟨10, isLoopR_not HO1.out HM'.out htn (fun h => hin (h.2.1 d t1 t2 HT1.out HT2.out)), rfl, HEw.out.trans HE3.out⟩⟩
        | zero =>
          obtain rfl : d = ts.length - 1 := by omega
          obtain ⟨t1, ht1⟩ : ∃ u, ts[0]? = some u := ⟨_, List.getElem?_eq_getElem (by omega)⟩
          obtain ⟨t2, ht2⟩ : ∃ u, ts[ts.length - 1]? = some u := ⟨_, List.getElem?_eq_getElem (by omega)⟩
          obtain ⟨x1, hx1, hs1⟩ := HAll.out.get 0 t1 ht1
          obtain ⟨x2, hx2, hs2⟩ := HAll.out.get (ts.length - 1) t2 ht2
          obtain ⟨T1, x1, rfl⟩ := hs1.iface
          obtain ⟨T2, x2, rfl⟩ := hs2.iface
          have e1 := HE2.out.cell (HCl.out 0 _ hx1)
          have e2 := HE2.out.cell (HCl.out (ts.length - 1) _ hx2)
          rw [Nat.add_zero] at e1
          have hcm : ∀ W, Ext wr W → Calls Tryz.prog 79 #[.iface T1 x1, .iface T2 x2] W fun e w' => e = .returned (.bool (t1.comes t2)) ∧ Ext W w' :=
            fun W he => comes_any t1 t2 _ _ W (Nat.le_trans (HParse.out t2 (List.mem_of_getElem? ht2)) (by decide)) (hs1.ext (HE2.out.trans he)) ((hs2.ext (HE2.out.trans he)).mono fun _ _ => trivial)
          have HCm := Lib.hid hcm
          have HT1 := Lib.hid ht1
          have HT2 := Lib.hid ht2
          have hw1 : IntKind.i64.wrap ((ts.length : Int) - 1) = (ts.length : Int) - 1 := IntWalk.i64_in _ (by omega)
          have hw2 : (0 : Int) ≤ (ts.length : Int) - 1 := by omega
          have hw3 : ((ts.length : Int) - 1).toNat = ts.length - 1 := by omega
          have hw4 : (ts.length : Int) - 1 < (ts.length : Int) := by omega
          have hw5 : (0 : Int) < (ts.length : Int) := by omega
          have hw6 : (1 : Int) ≤ (ts.length : Int) := by omega
          have hw7 : 0 < ts.length := by omega
          clear ht1 ht2 hx1 hx2 hs1 hs2 hcm
          go_wp2_with fail
          go_still_tail 9, (by kernel_rfl)
          change wpList _ _ _ _ _ wr.drew
          go_wp2_with ((with_reducible refine (HCm.out wr.drew (Ext.refl wr).drew).mono ?_); clear HCm; rintro e w3 ⟨rfl, hE3⟩; have HE3 := Lib.hid (HE2.out.trans ((Ext.refl wr).drew.trans hE3)); clear hE3)
          cases hcc : t1.comes t2 with
          | true =>
            refine (demand_yes _ _).mono ?_
            rintro e w4 ⟨rfl, rfl⟩
            have HCc := Lib.hid hcc
            clear hcc
            go_wp2
            go_end0
            refine .inl ⟨isLoopR_yes HO1.out HM'.out htn ⟨hts1, fun i a b ha hb => HCh.out i (by have := (List.getElem?_eq_some_iff.1 hb).1; omega) a b ha hb, fun a b ha hb => ?_⟩, rfl, HEw.out.trans HE3.out⟩
            obtain rfl : t1 = a := Option.some.inj (HT1.out.symm.trans ha)
            obtain rfl : t2 = b := Option.some.inj (HT2.out.symm.trans hb)
            exact HCc.out
          | false =>
            refine (demand_no _ _).mono ?_
            rintro e w4 ⟨rfl, rfl⟩
            exact ⟨rfl, .inr ⟨10, isLoopR_not HO1.out HM'.out htn (fun h => by have := h.2.2 t1 t2 HT1.out HT2.out; rw [hcc] at this; cases this), rfl, HEw.out.trans HE3.out⟩⟩

theorem IsLoop_any (rs : List (Str × Str)) (l : List Str) (v lv : Value) (w : World) (hn : l.length ≤ 1000) (hr : IsRules w v rs) (hl : IsSs w lv l) : Calls Tryz.prog 30 #[v, lv] w (OutE (isLoopR rs l) w) := by
  obtain ⟨p, c, rfl⟩ := hr.slice
  obtain ⟨q, d, rfl⟩ := hl.slice
  have hmf : ∀ (fn : Fn) (first cap : Array Value) (w : World), (Instr.makeFunc fn first cap).run Tryz.prog w = .ok (.func fn first cap) w := fun _ _ _ _ => rfl
  have HR := Lib.hid hr
  have HL := Lib.hid hl
  clear hr hl
  go_enter Tryz.func30, Tryz.ntmps30
  go_wp2_with fail
  obtain ⟨W0, hW0, hb0, hb1, hE, hsz⟩ := boxes2 w #[.slice p rs.length c] 35 #[.slice q l.length d] 36
  rw [hW0]
  have hf := isLoop1_any rs l w.heap.size (w.heap.size + 1) (.slice p rs.length c) (.slice q l.length d) _ hn (hb0.alloc (.cells #[.int .i64 0] 26)) (HR.out.ext (hE.alloc _)) (hb1.alloc _) (HL.out.ext (hE.alloc _))
  refine (guard_ranE (isLoopR rs l) 76 _ (fun _ _ => by kernel_rfl) W0 (by simpa using hf)).mono ?_
  rintro e w' ⟨rfl, hx⟩
  have HE := Lib.hid (hE.trans hx)
  clear hW0 hb0 hb1 hE hf hx
  go_wp2
  go_ret
  exact ⟨rfl, HE.out⟩

end Go.Proofs.YtholmlkjcobkdaaGreat
