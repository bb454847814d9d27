/- The path order: 'compare'. -/
import Derived.Test.YtholmlkjcobkdaaGreatGtQ
import Derived.StillTailTactics
namespace Go.Proofs.YtholmlkjcobkdaaGreat
set_option linter.all false
set_option linter.unusedSimpArgs false
set_option linter.unusedVariables false
open Go.RowKit
set_option maxRecDepth 100000

theorem as_cc1 (c : Int) (x : Value) (w : World) : (Instr.typeAssert (.iface 149 (.agg #[.int .u8 c, x])) 99 149 false).run Tryz.prog w = .ok (.agg #[.int .u8 c, x]) w := by kernel_rfl

abbrev Any : Nat → Prop := fun _ => True

theorem GW.drew {rk : Int → Int} {R K : Nat} {w : World} (h : GW rk R K w) : GW rk R K w.drew := h.ext (Ext.refl w).drew

theorem cmp_vv (rk : Int → Int) (R K : Nat) (i j : Fin 3) (w : World) (hw : GW rk R K w) :
    Calls Tryz.prog 130 #[.agg #[.map (some R), .map (some K)], tV i, tV j] w (Gts rk K ((Tm.v i).gt rk (.v j)) w) := by
  have h1 := as_vv j
  have h2 := as_vv i
  have HW := Lib.hid hw
  clear hw
  unfold tV
  go_enter Tryz.func130, Tryz.ntmps130
  go_wp2_with fail
  go_ret
  exact ⟨by rw [gt_to_v]; rfl, HW.out.known.ext (Ext.new _ _), (Ext.new _ _).grows' _⟩

theorem cmp_cv {S : Nat → Prop} (rk : Int → Int) (R K : Nat) (s : Tm) (hs : s.isV = false) (x : Value) (j : Fin 3) (w : World) (hss : s.size ≤ 100000) (hw : GW rk R K w) (hx : IsT S w s x) :
    Calls Tryz.prog 130 #[.agg #[.map (some R), .map (some K)], x, tV j] w (Gts rk K (s.gt rk (.v j)) w) := by
  obtain ⟨p, cap, xs, rfl, -⟩ := hx.split hs
  have h1 := as_vv j
  have h2 := as_cv s.sym (.slice p s.kids.length cap)
  have HO := Lib.hid (fun W (he : Ext w W) => occurs_any j s _ W hss ((hx.ext he).mono fun _ _ => trivial))
  have HW := Lib.hid hw
  have HS := Lib.hid hs
  clear hw hs hx
  unfold tV tC at *
  go_enter Tryz.func130, Tryz.ntmps130
  go_wp2_with ((with_reducible refine (HO.out _ (Ext.new _ _)).mono ?_); rintro e w' ⟨rfl, hE⟩)
  go_ret
  have hE' := (Ext.new w (.cells #[.map (some R), .map (some K)] 120)).trans hE
  exact ⟨by rw [gt_to_v, HS.out]; rfl, HW.out.known.ext hE', hE'.grows' _⟩

theorem cmp_vc {S : Nat → Prop} (rk : Int → Int) (R K : Nat) (i : Fin 3) (t : Tm) (ht : t.isV = false) (y : Value) (w : World) (hw : GW rk R K w) (hy : IsT S w t y) :
    Calls Tryz.prog 130 #[.agg #[.map (some R), .map (some K)], tV i, y] w (Gts rk K ((Tm.v i).gt rk t) w) := by
  obtain ⟨p, cap, xs, rfl, -⟩ := hy.split ht
  have h1 := as_cv t.sym (.slice p t.kids.length cap)
  have h2 := as_vc (vI i)
  have HW := Lib.hid hw
  have HT := Lib.hid ht
  clear hw ht hy
  unfold tV tC at *
  go_enter Tryz.func130, Tryz.ntmps130
  go_wp2_with fail
  go_ret
  have hE' := (Ext.new w (.cells #[.map (some R), .map (some K)] 120)).alloc (.cells #[.int .u8 0, .slice none 0 0] 149)
  exact ⟨by rw [gt_of_v rk i HT.out]; rfl, HW.out.known.ext hE', hE'.grows' _⟩

/-- The parts of a term, read in a world. -/
structure Parts (w : World) (t : Tm) (p : Option Addr) (xs : List Value) : Prop where
  all : AllT Any w t.kids xs
  ne : t.kids ≠ [] → p ≠ none
  at_ : ∀ a, p = some a → a.spot = none ∧ ∀ j u, xs[j]? = some u → w.cell? ⟨a.block, a.off + j, none⟩ = some u

theorem Parts.get {w : World} {t : Tm} {p : Option Addr} {xs : List Value} (h : Parts w t p xs) {d : Nat} {k : Tm} (hk : t.kids[d]? = some k) :
    ∃ a o T y, p = some ⟨a, o, none⟩ ∧ w.cell? ⟨a, o + d, none⟩ = some (.iface T y) ∧ IsT Any w k (.iface T y) := by
  obtain ⟨a, rfl⟩ : ∃ a, p = some a := Option.ne_none_iff_exists'.1 (h.ne (fun e => by rw [e] at hk; simp at hk))
  obtain ⟨a, o, sp⟩ := a
  obtain ⟨hsp, hcell⟩ := h.at_ _ rfl
  obtain rfl : sp = none := hsp
  obtain ⟨y, hy, hky⟩ := h.all.get d k hk
  obtain ⟨T, y, rfl⟩ := hky.iface
  exact ⟨a, o, T, y, rfl, hcell d _ hy, hky⟩

theorem Parts.grown {rk : Int → Int} {K : Nat} {w w' : World} {t : Tm} {p : Option Addr} {xs : List Value} (h : Parts w t p xs) (hk : Known rk K w) (hg : w.grownBy w' (some K)) : Parts w' t p xs := by
  have hkk : ∀ a o y, Any a → w.cell? ⟨a, o, none⟩ = some y → w'.cell? ⟨a, o, none⟩ = some y ∧ Any a := by
    obtain ⟨m, hm, -⟩ := hk
    exact hm.keeps hg
  exact ⟨h.all.keep hkk, h.ne, fun a ha => ⟨(h.at_ a ha).1, fun j u hj => (hkk _ _ _ trivial ((h.at_ a ha).2 j u hj)).1⟩⟩

theorem IsT.parts {S : Nat → Prop} {w : World} {t : Tm} {x : Value} (h : IsT S w t x) (hv : t.isV = false) : ∃ p cap xs, x = tC t.sym (.slice p t.kids.length cap) ∧ Parts w t p xs := by
  obtain ⟨p, cap, xs, hx, h0, h1, h2, h3⟩ := h.split hv
  exact ⟨p, cap, xs, hx, h3.mono fun _ _ => trivial, h2, fun a ha => ⟨(h1 a ha).1, (h1 a ha).2.2⟩⟩

theorem Ranks.at {rk : Int → Int} {R : Nat} {w : World} (h : Ranks rk R w) : ∃ m, Mp encB w R m ∧ ∀ t : Tm, t.isV = false → (getA t.symB m).getD (.int .i64 0) = .int .i64 (rk t.sym) := by
  obtain ⟨m, hm, hr⟩ := h
  refine ⟨m, hm, fun t ht => ?_⟩
  rw [hr t.symB (symB_in ht).1 (symB_in ht).2, symB_sym]; rfl

/-- What both later loops of 'compare' know of the world. -/
structure CW (rk : Int → Int) (R K : Nat) (s t : Tm) (p q : Option Addr) (cap cap' : Nat) (xs ys : List Value) (B0 Bb : Nat) (w : World) : Prop where
  g : GW rk R K w
  lt : K < B0 ∧ B0 + 1 < Bb
  b0 : Bx w B0 #[.map (some R), .map (some K)] 120
  b1 : Bx w (B0 + 1) #[.int .u8 s.sym, .slice p s.kids.length cap] 149
  bb : Bx w Bb #[.int .u8 t.sym, .slice q t.kids.length cap'] 149
  pa : Parts w s p xs
  pb : Parts w t q ys
  x : IsT Any w s (.iface 149 (.agg #[.int .u8 s.sym, .slice p s.kids.length cap]))
  y : IsT Any w t (.iface 149 (.agg #[.int .u8 t.sym, .slice q t.kids.length cap']))

theorem CW.step {rk : Int → Int} {R K : Nat} {s t : Tm} {p q : Option Addr} {cap cap' : Nat} {xs ys : List Value} {B0 Bb : Nat} {w w' : World} (h : CW rk R K s t p q cap cap' xs ys B0 Bb w) (hg : w.grownBy w' (some K)) (hk : Known rk K w') : CW rk R K s t p q cap cap' xs ys B0 Bb w' :=
  have h1 := h.lt
  ⟨h.g.step hg hk, h.lt, h.b0.grown hg (ne_some (by omega)), h.b1.grown hg (ne_some (by omega)), h.bb.grown hg (ne_some (by omega)), h.pa.grown h.g.known hg, h.pb.grown h.g.known hg, h.g.known.keeps hg h.x, h.g.known.keeps hg h.y⟩

theorem CW.ext {rk : Int → Int} {R K : Nat} {s t : Tm} {p q : Option Addr} {cap cap' : Nat} {xs ys : List Value} {B0 Bb : Nat} {w w' : World} (h : CW rk R K s t p q cap cap' xs ys B0 Bb w) (he : Ext w w') : CW rk R K s t p q cap cap' xs ys B0 Bb w' :=
  h.step (he.grows' _) (h.g.known.ext he)

set_option maxHeartbeats 8000000 in
theorem cmp_cc (rk : Int → Int) (R K : Nat) (s t : Tm) (hs : s.isV = false) (ht : t.isV = false) (x y : Value) (w : World) (hss : s.size ≤ 100000) (hts : t.size ≤ 100000) (hw : GW rk R K w) (hx : IsT Any w s x) (hy : IsT Any w t y)
    (ih : ∀ (s' t' : Tm) (x' y' : Value) (w' : World), s'.size + t'.size < s.size + t.size → s'.size ≤ s.size → t'.size ≤ t.size → GW rk R K w' → IsT Any w' s' x' → IsT Any w' t' y' →
      Calls Tryz.prog 93 #[.agg #[.map (some R), .map (some K)], x', y'] w' (Gts rk K (s'.gt rk t') w')) :
    Calls Tryz.prog 130 #[.agg #[.map (some R), .map (some K)], x, y] w (Gts rk K (s.gt rk t) w) := by
  obtain ⟨p, cap, xs, rfl, hpa⟩ := hx.parts hs
  obtain ⟨q, cap', ys, rfl, hpb⟩ := hy.parts ht
  have a1 := as_cv t.sym (.slice q t.kids.length cap')
  have a2 := as_cc s.sym (.slice p s.kids.length cap)
  have a3 := as_cc1 t.sym (.slice q t.kids.length cap')
  have HW := Lib.hid hw
  have HX := Lib.hid hx
  have HY := Lib.hid hy
  have HPa := Lib.hid hpa
  have HPb := Lib.hid hpb
  have IH := Lib.hid ih
  have HS := Lib.hid hs
  have HT := Lib.hid ht
  have hKlt := hw.known.lt
  clear hw hx hy hpa hpb ih hs ht
  unfold tC at *
  go_enter Tryz.func130, Tryz.ntmps130
  have hk2 := s.kids_le
  have hl2 := t.kids_le
  go_wp2_with fail
  obtain ⟨W0, hW0, hb0, hb1, hE, hsz⟩ := boxes2 w #[.map (some R), .map (some K)] 120 #[.int .u8 s.sym, .slice p s.kids.length cap] 149
  rw [hW0]
  have HE := Lib.hid hE
  have HB0 := Lib.hid hb0
  have HB1 := Lib.hid hb1
  clear hW0 hE hb0 hb1 a1 a2
  have HG0 := Lib.hid (HW.out.ext HE.out)
  go_loopg [48] s.kids.length (fun k i wr => ∃ d, d + k = s.kids.length ∧ i = .int .i64 d ∧ GW rk R K wr ∧ W0.grownBy wr (some K) ∧ ∀ u ∈ s.kids.take d, u ≠ t ∧ u.gt rk t = false)
  case atStart => exact ⟨0, by simp, rfl, HG0.out, (Ext.refl _).grows' _, fun u hu => by simp at hu⟩
  case round =>
    obtain ⟨d, hd, rfl, hgw, hgr, hno⟩ := hrel
    have HGw := Lib.hid hgw
    have HGr := Lib.hid hgr
    have HNo := Lib.hid hno
    have hB0 := HB0.out.grown hgr (ne_some (by omega))
    have hB1 := HB1.out.grown hgr (ne_some (by omega))
    have HPa1 := Lib.hid ((HPa.out.grown HW.out.known (HE.out.grows' _)).grown HG0.out.known hgr)
    have HPb1 := Lib.hid ((HPb.out.grown HW.out.known (HE.out.grows' _)).grown HG0.out.known hgr)
    have HX1 := Lib.hid (HG0.out.known.keeps hgr (HX.out.ext HE.out))
    have HY1 := Lib.hid (HG0.out.known.keeps hgr (HY.out.ext HE.out))
    have c00 := hB0.at 0 (y := .map (some R)) rfl
    have c01 := hB0.at 1 (y := .map (some K)) rfl
    have c10 := hB1.at 0 (y := .int .u8 s.sym) rfl
    have c11 := hB1.at 1 (y := .slice p s.kids.length cap) rfl
    have HB0' := Lib.hid hB0
    have HB1' := Lib.hid hB1
    clear hgw hgr hno hB0 hB1
    cases gk with
    | succ k =>
      have hdl : d < s.kids.length := by omega
      have hdl' : (d : Int) < (s.kids.length : Int) := by omega
      have hd2 : (d : Int) + 1 ≤ 2 := by omega
      obtain ⟨u, hu⟩ : ∃ u, s.kids[d]? = some u := ⟨_, List.getElem?_eq_getElem hdl⟩
      obtain ⟨a, o, T, z, rfl, hz, hzu⟩ := HPa1.out.get hu
      have HU := Lib.hid hu
      have HZu := Lib.hid hzu
      have hus := kid_size hu
      have HSm := Lib.hid (same_any u t _ _ wr (by omega) hts hzu HY1.out)
      clear hu hzu
      by_cases hut : u = t
      · have hsm := HSm.out
        rw [decide_eq_true hut] at hsm
        have HSm' := Lib.hid hsm
        have HUt := Lib.hid hut
        clear HSm hsm hut
        go_wp2_with ((with_reducible refine HSm'.out.mono ?_); clear HSm'; rintro e w2 ⟨rfl, hE2⟩; have HE2 := Lib.hid hE2; clear hE2)
        go_ret
        exact ⟨by rw [gt_kid HS.out HT.out (List.mem_of_getElem? HU.out) (.inl HUt.out)]; rfl, HGw.out.known.ext HE2.out, ((HE.out.grows' _).trans HGr.out).trans (HE2.out.grows' _)⟩
      · have hsm := HSm.out
        rw [decide_eq_false hut] at hsm
        have HSm' := Lib.hid hsm
        have HUt := Lib.hid hut
        have HGt := Lib.hid (fun W (he : Ext wr W) => IH.out u t _ _ W (by omega) (by omega) (by omega) (HGw.out.ext he) (HZu.out.ext he) (HY1.out.ext he))
        clear HSm hsm hut
        cases hgt : u.gt rk t with
        | true =>
          rw [hgt] at HGt
          have HGtt := Lib.hid hgt
          clear hgt
          go_wp2_with (first
            | ((with_reducible refine HSm'.out.mono ?_); clear HSm'; rintro e w2 ⟨rfl, hE2⟩; have HE2 := Lib.hid hE2; have c00' := hE2.cell c00; have c01' := hE2.cell c01; clear hE2)
            | ((with_reducible refine (HGt.out _ HE2.out).mono ?_); clear HGt; rintro e w3 ⟨rfl, hk3, hg3⟩; have HK3 := Lib.hid hk3; have HG3 := Lib.hid hg3; clear hk3 hg3))
          go_ret
          exact ⟨by rw [gt_kid HS.out HT.out (List.mem_of_getElem? HU.out) (.inr HGtt.out)]; rfl, HK3.out, (((HE.out.grows' _).trans HGr.out).trans (HE2.out.grows' _)).trans HG3.out⟩
        | false =>
          rw [hgt] at HGt
          have HGtf := Lib.hid hgt
          clear hgt
          go_wp2_with (first
            | ((with_reducible refine HSm'.out.mono ?_); clear HSm'; rintro e w2 ⟨rfl, hE2⟩; have HE2 := Lib.hid hE2; have c00' := hE2.cell c00; have c01' := hE2.cell c01; clear hE2)
            | ((with_reducible refine (HGt.out _ HE2.out).mono ?_); clear HGt; rintro e w3 ⟨rfl, hk3, hg3⟩; have HK3 := Lib.hid hk3; have HG3 := Lib.hid hg3; clear hk3 hg3))
          go_roundg k
          case measure => omega
          case rel =>
            refine ⟨d + 1, by omega, congrArg (Value.int .i64) (by omega), (HGw.out.ext HE2.out).step HG3.out HK3.out, (HGr.out.trans (HE2.out.grows' _)).trans HG3.out, fun v hv => ?_⟩
            rw [List.take_add_one, HU.out] at hv
            rcases List.mem_append.1 hv with hv | hv
            · exact HNo.out v hv
            · simp at hv; subst hv; exact ⟨HUt.out, HGtf.out⟩
    | zero =>
      obtain rfl : d = s.kids.length := by omega
      have hno' : ∀ u ∈ s.kids, u ≠ t ∧ u.gt rk t = false := by have h := HNo.out; rwa [List.take_length] at h
      have HN := Lib.hid hno'
      clear HNo hno'
      have hEA := Ext.new wr (.cells #[.int .u8 t.sym, .slice q t.kids.length cap'] 149)
      obtain ⟨mr, hmr, hrk⟩ := (HGw.out.ext hEA).ranks.at
      have HMr := Lib.hid hmr
      have hk1 := hrk s HS.out
      have hk3 := hrk t HT.out
      have e1 := enc_sym s
      have e2 := enc_sym t
      have HK1 := Lib.hid hk1
      have HK2 := Lib.hid hk3
      have HEn1 := Lib.hid e1
      have HEn2 := Lib.hid e2
      have hBb : Bx (wr.alloc (.cells #[.int .u8 t.sym, .slice q t.kids.length cap'] 149)) wr.heap.size #[.int .u8 t.sym, .slice q t.kids.length cap'] 149 := Bx.new _ _ _
      have HBb := Lib.hid hBb
      have HEA := Lib.hid hEA
      have b00 := hEA.cell c00
      have b01 := hEA.cell c01
      have b10 := hEA.cell c10
      have b11 := hEA.cell c11
      clear hmr hrk hk1 hk3 e1 e2 hBb hEA c00 c01 c10 c11
      by_cases hr : rk t.sym < rk s.sym
      · go_wp2_with (first
          | (at_lookup; refine wpList_look keysB under_rank zero_int HMr.out s.symB (by rfl) HEn1.out ?_; rw [HK1.out])
          | (at_lookup; refine wpList_look keysB under_rank zero_int HMr.out t.symB (by rfl) HEn2.out ?_; rw [HK2.out]))
        go_ret
        exact ⟨by rw [gt_rank HS.out HT.out HN.out hr]; rfl, HGw.out.known.ext HEA.out, ((HE.out.grows' _).trans HGr.out).trans (HEA.out.grows' _)⟩
      · have hr' : rk s.sym ≤ rk t.sym := by omega
        have HR := Lib.hid hr
        clear hr
        go_wp2_with (first
          | (at_lookup; refine wpList_look keysB under_rank zero_int HMr.out s.symB (by rfl) HEn1.out ?_; rw [HK1.out])
          | (at_lookup; refine wpList_look keysB under_rank zero_int HMr.out t.symB (by rfl) HEn2.out ?_; rw [HK2.out]))
        have hcw : CW rk R K s t p q cap cap' xs ys w.heap.size wr.heap.size (wr.alloc (.cells #[.int .u8 t.sym, .slice q t.kids.length cap'] 149)) :=
          ⟨HGw.out.ext HEA.out, ⟨hKlt, by have := HGr.out.size; omega⟩, HB0'.out.ext HEA.out, HB1'.out.ext HEA.out, HBb.out, HPa1.out.grown HGw.out.known (HEA.out.grows' _), HPb1.out.grown HGw.out.known (HEA.out.grows' _), HX1.out.ext HEA.out, HY1.out.ext HEA.out⟩
        have HCW := Lib.hid hcw
        have HGA := Lib.hid (((HE.out.grows' _).trans HGr.out).trans (HEA.out.grows' (some K)))
        generalize wr.alloc (.cells #[.int .u8 t.sym, .slice q t.kids.length cap'] 149) = WA at HCW HGA ⊢
        generalize hBb : wr.heap.size = Bb at HCW ⊢
        generalize hB00 : w.heap.size = B0 at HCW ⊢
        clear hcw HMr HK1 HK2 HEn1 HEn2 HBb HEA b00 b01 b10 b11 HB0' HB1' HPa1 HPb1 HX1 HY1 HGw HGr HE HB0 HB1 HG0 HX HY HPa HPb hBb hB00 HW hr'
        have b11 := HCW.out.bb.at 1 (y := .slice q t.kids.length cap') rfl
        go_wp2_with fail
        clear b11
        go_loopg [78] t.kids.length (fun k i wr => ∃ d, d + k = t.kids.length ∧ i = .int .i64 d ∧ CW rk R K s t p q cap cap' xs ys B0 Bb wr ∧ w.grownBy wr (some K) ∧ ∀ u ∈ t.kids.take d, s.gt rk u = true)
        case atStart => exact ⟨0, by simp, rfl, HCW.out, HGA.out, fun u hu => by simp at hu⟩
        case round =>
          obtain ⟨d, hd, rfl, hcw, hgr, hall⟩ := hrel
          have HC := Lib.hid hcw
          have HGr := Lib.hid hgr
          have HAll := Lib.hid hall
          have c00 := hcw.b0.at 0 (y := .map (some R)) rfl
          have c01 := hcw.b0.at 1 (y := .map (some K)) rfl
          have c10 := hcw.b1.at 0 (y := .int .u8 s.sym) rfl
          have c11 := hcw.b1.at 1 (y := .slice p s.kids.length cap) rfl
          have c20 := hcw.bb.at 0 (y := .int .u8 t.sym) rfl
          have c21 := hcw.bb.at 1 (y := .slice q t.kids.length cap') rfl
          clear hcw hgr hall
          cases gk with
          | succ k =>
            have hdl : d < t.kids.length := by omega
            have hdl' : (d : Int) < (t.kids.length : Int) := by omega
            have hd2 : (d : Int) + 1 ≤ 2 := by omega
            obtain ⟨u, hu⟩ : ∃ u, t.kids[d]? = some u := ⟨_, List.getElem?_eq_getElem hdl⟩
            obtain ⟨a, o, T, z, rfl, hz, hzu⟩ := HC.out.pb.get hu
            have hus := kid_size hu
            have HU := Lib.hid hu
            have HGt := Lib.hid (IH.out s u _ _ wr (by omega) (by omega) (by omega) HC.out.g HC.out.x hzu)
            clear hu hzu
            cases hgt : s.gt rk u with
            | false =>
              rw [hgt] at HGt
              have HGtf := Lib.hid hgt
              clear hgt
              go_wp2_with ((with_reducible refine HGt.out.mono ?_); clear HGt; rintro e w3 ⟨rfl, hk3, hg3⟩; have HK3 := Lib.hid hk3; have HG3 := Lib.hid hg3; clear hk3 hg3)
              go_ret
              exact ⟨by rw [gt_part HS.out HT.out HN.out (List.mem_of_getElem? HU.out) HGtf.out]; rfl, HK3.out, HGr.out.trans HG3.out⟩
            | true =>
              rw [hgt] at HGt
              have HGtt := Lib.hid hgt
              clear hgt
              go_wp2_with ((with_reducible refine HGt.out.mono ?_); clear HGt; rintro e w3 ⟨rfl, hk3, hg3⟩; have HK3 := Lib.hid hk3; have HG3 := Lib.hid hg3; clear hk3 hg3)
              go_roundg k
              case measure => omega
              case rel =>
                refine ⟨d + 1, by omega, congrArg (Value.int .i64) (by omega), HC.out.step HG3.out HK3.out, HGr.out.trans HG3.out, fun v hv => ?_⟩
                rw [List.take_add_one, HU.out] at hv
                rcases List.mem_append.1 hv with hv | hv
                · exact HAll.out v hv
                · simp at hv; subst hv; exact HGtt.out
          | zero =>
            obtain rfl : d = t.kids.length := by omega
            have hall' : ∀ u ∈ t.kids, s.gt rk u = true := by have h := HAll.out; rwa [List.take_length] at h
            have HA := Lib.hid hall'
            clear HAll hall'
            by_cases hsy : s.sym = t.sym
            · have HSy := Lib.hid hsy
              have hl := sym_kids HS.out HT.out hsy
              have hd1 : (s.sym != t.sym) = false := by simp [hsy]
              have HL := Lib.hid hl
              clear hsy hl
              go_wp2_with fail
              obtain ⟨W1, rfl⟩ : ∃ W1 : World, W1 = wr := ⟨_, rfl⟩
              go_loopg [96] s.kids.length (fun k i wr => ∃ d, d + k = s.kids.length ∧ i = .int .i64 d ∧ Ext W1 wr ∧ s.kids.take d = t.kids.take d)
              case atStart => exact ⟨0, by simp, rfl, Ext.refl _, by simp⟩
              case round =>
                obtain ⟨d, hd, rfl, hE, htk⟩ := hrel
                have HE := Lib.hid hE
                have HTk := Lib.hid htk
                have HCr := Lib.hid (HC.out.ext hE)
                have k00 := hE.cell c00
                have k01 := hE.cell c01
                have k11 := hE.cell c11
                have k21 := hE.cell c21
                clear hE htk
                cases gk with
                | zero =>
                  obtain rfl : d = s.kids.length := by omega
                  go_wp2_with fail
                  go_ret
                  have h0 : s.kids = t.kids := by have h := HTk.out; rwa [List.take_length, HL.out, List.take_length] at h
                  exact ⟨by rw [gt_same HS.out HT.out HN.out (by have := HR.out; omega) HA.out HSy.out h0]; rfl, HCr.out.g.known, HGr.out.trans (HE.out.grows' _)⟩
                | succ k =>
                  have hdl : d < s.kids.length := by omega
                  have hdt : d < t.kids.length := by have := HL.out; omega
                  have hdl' : (d : Int) < (s.kids.length : Int) := by omega
                  have hdt' : (d : Int) < (t.kids.length : Int) := by omega
                  have hd2 : (d : Int) + 1 ≤ 2 := by omega
                  obtain ⟨u, hu⟩ : ∃ u, s.kids[d]? = some u := ⟨_, List.getElem?_eq_getElem hdl⟩
                  obtain ⟨v, hv⟩ : ∃ v, t.kids[d]? = some v := ⟨_, List.getElem?_eq_getElem hdt⟩
                  obtain ⟨a, o, T, z, rfl, hz, hzu⟩ := HCr.out.pa.get hu
                  obtain ⟨b, o', T', z', rfl, hz', hzv⟩ := HCr.out.pb.get hv
                  have hus := kid_size hu
                  have hvs := kid_size hv
                  have HU := Lib.hid hu
                  have HV := Lib.hid hv
                  have HZu := Lib.hid hzu
                  have HZv := Lib.hid hzv
                  have HSm := Lib.hid (same_any u v _ _ wr (by omega) (by omega) hzu hzv)
                  clear hu hv hzu hzv
                  by_cases huv : u = v
                  · have hsm := HSm.out
                    rw [decide_eq_true huv] at hsm
                    have HSm' := Lib.hid hsm
                    have HUv := Lib.hid huv
                    clear HSm hsm huv
                    go_wp2_with ((with_reducible refine HSm'.out.mono ?_); clear HSm'; rintro e w3 ⟨rfl, hE3⟩; have HE3 := Lib.hid hE3; clear hE3)
                    go_roundg k
                    case measure => omega
                    case rel =>
                      refine ⟨d + 1, by omega, congrArg (Value.int .i64) (by omega), HE.out.trans HE3.out, ?_⟩
                      rw [List.take_add_one, List.take_add_one, HU.out, HV.out, HTk.out, HUv.out]
                  · have hsm := HSm.out
                    rw [decide_eq_false huv] at hsm
                    have HSm' := Lib.hid hsm
                    have HUv := Lib.hid huv
                    have HGt := Lib.hid (fun W (he : Ext wr W) => IH.out u v _ _ W (by omega) (by omega) (by omega) (HCr.out.g.ext he) (HZu.out.ext he) (HZv.out.ext he))
                    clear HSm hsm huv
                    go_wp2_with ((with_reducible refine HSm'.out.mono ?_); clear HSm'; rintro e w3 ⟨rfl, hE3⟩; have HE3 := Lib.hid hE3; have k00' := hE3.cell k00; have k01' := hE3.cell k01; have k21' := hE3.cell k21; have hz'' := hE3.cell hz'; clear hE3 k00 k01 k11 k21 c00 c01 c10 c11 c20 c21 hz hz')
                    go_still_tail 7, (by kernel_rfl)
                    change wpList _ _ _ _ _ w3.drew
                    go_wp2_with ((with_reducible refine (HGt.out w3.drew HE3.out.drew).mono ?_); clear HGt; rintro e w4 ⟨rfl, hk4, hg4⟩; have HK4 := Lib.hid hk4; have HG4 := Lib.hid hg4; clear hk4 hg4)
                    go_ret
                    have h1 := gt_lex HS.out HT.out HN.out (by have := HR.out; omega) HA.out HSy.out HTk.out HU.out HV.out HUv.out
                    refine ⟨by rw [h1]; rfl, HK4.out, (HGr.out.trans (HE.out.grows' _)).trans ((HE3.out.drew.grows' _).trans HG4.out)⟩
            · have HSy := Lib.hid hsy
              have hd1 : (s.sym != t.sym) = true := by simpa using hsy
              clear hsy
              go_wp2_with fail
              go_ret
              exact ⟨by rw [gt_more HS.out HT.out HN.out (by have := HR.out; omega) HA.out HSy.out]; rfl, HC.out.g.known, HGr.out⟩

/-- 'greater' and 'compare', any two terms. -/
theorem greater_all (rk : Int → Int) (R K : Nat) : ∀ (n : Nat) (s t : Tm) (x y : Value) (w : World), s.size + t.size < n → s.size ≤ 100000 → t.size ≤ 100000 → GW rk R K w → IsT Any w s x → IsT Any w t y →
    Calls Tryz.prog 93 #[.agg #[.map (some R), .map (some K)], x, y] w (Gts rk K (s.gt rk t) w) := by
  intro n
  induction n with
  | zero => intro s t x y w h; omega
  | succ n ih =>
    intro s t x y w hn hss hts hw hx hy
    refine greater_step rk R K s t x y w hss hts hw hx hy fun w' he => ?_
    have hw' := hw.ext he
    have hx' := hx.ext he
    have hy' := hy.ext he
    cases hs : s.isV with
    | true =>
      cases s with
      | v i =>
        obtain rfl : x = tV i := hx'
        cases ht : t.isV with
        | true =>
          cases t with
          | v j => obtain rfl : y = tV j := hy'; exact cmp_vv rk R K i j w' hw'
          | k b => simp [Tm.isV] at ht
          | u b t => simp [Tm.isV] at ht
          | p b s t => simp [Tm.isV] at ht
        | false => exact cmp_vc rk R K i t ht y w' hw' hy'
      | k b => simp [Tm.isV] at hs
      | u b t => simp [Tm.isV] at hs
      | p b s t => simp [Tm.isV] at hs
    | false =>
      cases ht : t.isV with
      | true =>
        cases t with
        | v j => obtain rfl : y = tV j := hy'; exact cmp_cv rk R K s hs x j w' hss hw' hx'
        | k b => simp [Tm.isV] at ht
        | u b t => simp [Tm.isV] at ht
        | p b s t => simp [Tm.isV] at ht
      | false =>
        exact cmp_cc rk R K s t hs ht x y w' hss hts hw' hx' hy' fun s' t' x' y' w2 h1 h2 h3 hw2 hx2 hy2 => ih s' t' x' y' w2 (by omega) (by omega) (by omega) hw2 hx2 hy2

theorem greater_any {S S' : Nat → Prop} (rk : Int → Int) (R K : Nat) (s t : Tm) (x y : Value) (w : World) (hss : s.size ≤ 100000) (hts : t.size ≤ 100000) (hw : GW rk R K w) (hx : IsT S w s x) (hy : IsT S' w t y) :
    Calls Tryz.prog 93 #[.agg #[.map (some R), .map (some K)], x, y] w (Gts rk K (s.gt rk t) w) :=
  greater_all rk R K _ s t x y w (Nat.lt_succ_self _) hss hts hw (hx.mono fun _ _ => trivial) (hy.mono fun _ _ => trivial)

end Go.Proofs.YtholmlkjcobkdaaGreat
