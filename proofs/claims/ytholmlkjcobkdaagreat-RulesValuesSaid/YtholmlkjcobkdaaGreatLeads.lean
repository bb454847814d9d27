/- 'leads': whether a term is a next term of another one. -/
import Derived.Test.YtholmlkjcobkdaaGreatCTerm
import Derived.StillTailTactics
namespace Go.Proofs.YtholmlkjcobkdaaGreat
set_option linter.all false
set_option linter.unusedSimpArgs false
set_option linter.unusedVariables false
open Go.RowKit
set_option maxRecDepth 100000

theorem put_le (s : Tm) (d : Nat) (r : Tm) : (s.put d r).size ≤ s.size + r.size := by
  cases s with
  | v i => simp only [Tm.put]; omega
  | k b => simp only [Tm.put]; omega
  | u b t => simp only [Tm.put, Tm.size]; omega
  | p b s t => simp only [Tm.put]; split <;> simp only [Tm.size] <;> omega

def LeadsTo (ls : List (Tm × Tm)) (s t : Tm) (w : World) (e : Ending) (w' : World) : Prop := e = .returned (.bool (decide (t ∈ nexts ls s))) ∧ Ext w w'

set_option maxHeartbeats 8000000 in
theorem leads_step (ls : List (Tm × Tm)) (hn : ls.length ≤ 1000) (hC : ∀ l ∈ ls, l.2.size ≤ 12) (s t : Tm) (lv x y : Value) (w : World) (hss : s.size ≤ 60) (hts : t.size ≤ 60) (hl : IsLaws Any w lv ls) (hx : IsT Any w s x) (hy : IsT Any w t y)
    (ih : ∀ (d : Nat) (k r : Tm), s.kids[d]? = some k → t.kids[d]? = some r → ∀ (x' y' : Value) (w' : World), Ext w w' → IsT Any w' k x' → IsT Any w' r y' → Calls Tryz.prog 78 #[lv, x', y'] w' (LeadsTo ls k r w')) :
    Calls Tryz.prog 78 #[lv, x, y] w (LeadsTo ls s t w) := by
  obtain ⟨p, c, rfl⟩ := hl.slice
  have hmf : ∀ (fn : Fn) (first cap : Array Value) (w : World), (Instr.makeFunc fn first cap).run Tryz.prog w = .ok (.func fn first cap) w := fun _ _ _ _ => rfl
  obtain ⟨T, y, rfl⟩ := hy.iface
  obtain ⟨c1, p1, cap1, b1, a1, hb1, hc1⟩ := as_comp hx
  obtain ⟨c2, p2, cap2, b2, a2, hb2, hc2⟩ := as_comp hy
  have hR : ∀ W, Ext w W → Calls Tryz.prog 123 #[.slice p ls.length c, x] W (Makes (fun b => b < W.heap.size) W (rootT ls s)) :=
    fun W he => root_any ls s _ x W hn (by omega) (fun b hb => hb) (hl.ext he).lt ((hx.ext he).lt.mono fun _ h => h.2)
  have HR := Lib.hid hR
  have HL := Lib.hid hl
  have HX := Lib.hid hx
  have HY := Lib.hid hy
  have HC := Lib.hid hC
  have IH := Lib.hid ih
  have HB1 := Lib.hid hb1
  have HB2 := Lib.hid hb2
  have HC1 := Lib.hid hc1
  have HC2 := Lib.hid hc2
  obtain ⟨U, x, rfl⟩ := hx.iface
  have hrs : ∀ u ∈ rootT ls s, u.size ≤ 100000 := fun u hu => by
    have h := rootT_size hC s u hu
    omega
  have HRs := Lib.hid hrs
  clear hl hx hy hC ih hb1 hb2 hc1 hc2 hR hrs
  go_enter Tryz.func78, Tryz.ntmps78
  go_upto_if 18 with ((with_reducible refine (HR.out _ (Ext.new _ _)).mono ?_); clear HR; rintro e w1 ⟨v, rfl, ho, hE⟩; have HO := Lib.hid ho; have HE := Lib.hid hE; clear ho hE)
  have hb0 : Bx w1 w.heap.size #[.iface T y] 99 := (Bx.new w _ _).ext HE.out
  have hrd := HO.out.read
  have hE1 : Ext w w1 := (Ext.new w _).trans HE.out
  have hcon := containsTerm_any (LJ w.heap.size t T y v (rootT ls s) w1) 124 #[.pointer (some ⟨w.heap.size, 0, none⟩)] (fun u => decide (u = t)) (rootT ls s) v w1 (by have := rootT_length ls s; omega) (fun _ _ => by kernel_rfl) (fun W h => h.l)
    ⟨Ext.refl _, hb0, HY.out.ext hE1, hrd.mono fun _ _ => trivial⟩ (leads1_any w.heap.size t T y v (rootT ls s) w1 (by omega) HRs.out)
  have HE1 := Lib.hid hE1
  clear hrd hb0 hE1 HO
  cases hany : (rootT ls s).any (fun u => decide (u = t)) with
  | true =>
    rw [hany] at hcon
    refine hcon.mono ?_
    rintro e w2 ⟨rfl, hj⟩
    have HAny := Lib.hid hany
    have HJ := Lib.hid hj
    clear hj hany hcon
    go_wp2_with fail
    go_ret
    exact ⟨by rw [decide_eq_true (leads_root HAny.out)]; rfl, HE1.out.trans HJ.out.e⟩
  | false =>
  rw [hany] at hcon
  refine hcon.mono ?_
  rintro e w2 ⟨rfl, hj⟩
  have HNo := Lib.hid (not_root hany)
  have HE2 := Lib.hid (HE1.out.trans hj.e)
  have HB := Lib.hid hj.b
  clear hj hany hcon
  generalize hB0 : w.heap.size = B0 at *
  have b0 := HB.out.at 0 (y := .iface T y) rfl
  have hltB := HB.out.lt
  have hEa := Ext.new w2 (.cells #[.int .u8 c1, .slice p1 s.kids.length cap1] 149)
  have hEb := (hEa).alloc (.cells #[.int .u8 c2, .slice p2 t.kids.length cap2] 149)
  cases hsv : s.isV with
  | true =>
    obtain rfl : b1 = false := by have := HB1.out; rw [hsv] at this; exact this
    have HSv := Lib.hid hsv
    have HEb := Lib.hid hEb
    clear hsv hEa hEb
    go_wp2_with fail
    go_ret
    exact ⟨by rw [decide_eq_false (leads_apart HNo.out (.inl HSv.out))]; rfl, HE2.out.trans HEb.out⟩
  | false =>
  cases htv : t.isV with
  | true =>
    obtain rfl : b1 = true := by have := HB1.out; rw [hsv] at this; exact this
    obtain rfl : b2 = false := by have := HB2.out; rw [htv] at this; exact this
    have HTv := Lib.hid htv
    have HEb := Lib.hid hEb
    clear hsv htv hEa hEb
    go_wp2_with fail
    go_ret
    exact ⟨by rw [decide_eq_false (leads_apart HNo.out (.inr (.inl HTv.out)))]; rfl, HE2.out.trans HEb.out⟩
  | false =>
  obtain rfl : b1 = true := by have := HB1.out; rw [hsv] at this; exact this
  obtain rfl : b2 = true := by have := HB2.out; rw [htv] at this; exact this
  obtain ⟨rfl, hxe⟩ := HC1.out hsv
  obtain ⟨rfl, hye⟩ := HC2.out htv
  by_cases hne : s.sym = t.sym
  rotate_left
  · have g1 : (s.sym != t.sym) = true := by simpa using hne
    have HNe := Lib.hid hne
    have HEb := Lib.hid hEb
    clear hsv htv hEa hEb hne hxe hye
    go_wp2_with fail
    go_ret
    exact ⟨by rw [decide_eq_false (leads_apart HNo.out (.inr (.inr HNe.out)))]; rfl, HE2.out.trans HEb.out⟩
  have g1 : (s.sym != t.sym) = false := by simp [hne]
  have HNe := Lib.hid hne
  have HSv := Lib.hid hsv
  have HTv := Lib.hid htv
  have HXe := Lib.hid hxe
  have HYe := Lib.hid hye
  clear hsv htv hne hxe hye hEa hEb
  go_wp2_with fail
  obtain ⟨W2, hW2, hba, hbb, hE3, hsz2⟩ := boxes2 w2 #[.int .u8 s.sym, .slice p1 s.kids.length cap1] 149 #[.int .u8 t.sym, .slice p2 t.kids.length cap2] 149
  rw [hW2]
  obtain ⟨p1', cap1', xs, hx1, hpa⟩ := HX.out.parts HSv.out
  obtain ⟨p2', cap2', ys, hy1, hpb⟩ := HY.out.parts HTv.out
  obtain ⟨rfl, rfl⟩ : p1 = p1' ∧ cap1 = cap1' := by have h := HXe.out.symm.trans hx1; simpa [tC] using h
  obtain ⟨rfl, rfl⟩ : p2 = p2' ∧ cap2 = cap2' := by have h := HYe.out.symm.trans hy1; simpa [tC] using h
  have HBa := Lib.hid hba
  have HBb := Lib.hid hbb
  have HE3 := Lib.hid (HE2.out.trans hE3)
  have HBt := Lib.hid (HB.out.ext hE3)
  have HPa := Lib.hid hpa
  have HPb := Lib.hid hpb
  have hlen := sym_kids HSv.out HTv.out HNe.out
  have HLen := Lib.hid hlen
  have hk2 := s.kids_le
  generalize hNa : w2.heap.size = Na at *
  have hB0Na : B0 < Na := hltB
  clear hW2 hba hbb hE3 hpa hpb hx1 hy1 hlen b0 a1 a2 g1 hNa hltB hB0
  go_loopg [45] s.kids.length (fun k i wr => ∃ d, d + k = s.kids.length ∧ i = .int .i64 d ∧ Ext W2 wr ∧ ∀ d' : Nat, d' < d → ∀ k r, s.kids[d']? = some k → t.kids[d']? = some r → ¬ (s.put d' r = t ∧ r ∈ nexts ls k))
  case atStart => exact ⟨0, by simp, rfl, Ext.refl _, fun d' h => absurd h (Nat.not_lt_zero _)⟩
  case round =>
    obtain ⟨d, hd, rfl, hE, hno⟩ := hrel
    have HEr := Lib.hid hE
    have HNr := Lib.hid hno
    clear hE hno
    cases gk with
    | zero =>
      obtain rfl : d = s.kids.length := by omega
      go_wp2_with fail
      go_ret
      have hfin : t ∉ nexts ls s := leads_no HNo.out fun d k r h1 h2 => HNr.out d (List.getElem?_eq_some_iff.1 h1).1 k r h1 h2
      exact ⟨by rw [decide_eq_false hfin]; rfl, HE3.out.trans HEr.out⟩
    | succ k =>
      have hdl : d < s.kids.length := by omega
      have hdl' : (d : Int) < (s.kids.length : Int) := by omega
      have hdt : d < t.kids.length := by have := HLen.out; omega
      have hdt' : (d : Int) < (t.kids.length : Int) := by omega
      have hd2 : (d : Int) + 1 ≤ 2 := by omega
      obtain ⟨ks, hks⟩ : ∃ u, s.kids[d]? = some u := ⟨_, List.getElem?_eq_getElem hdl⟩
      obtain ⟨kt, hkt⟩ : ∃ u, t.kids[d]? = some u := ⟨_, List.getElem?_eq_getElem hdt⟩
      have hxlen := HPa.out.all.length
      have hHall := HPa.out.all
      obtain ⟨a, o, T1, z1, rfl, hz1, hzk⟩ := HPa.out.get hks
      obtain ⟨b, o', T2, z2, rfl, hz2, hzt⟩ := HPb.out.get hkt
      have hEwr := HE3.out.trans HEr.out
      have hz1' := hEwr.cell hz1
      have hz2' := hEwr.cell hz2
      have hbt := HBt.out.ext HEr.out
      have hba := HBa.out.ext HEr.out
      have hbb := HBb.out.ext HEr.out
      have t0 := hbt.at 0 (y := .iface T y) rfl
      have b0 := hba.at 0 (y := .int .u8 s.sym) rfl
      have b1 := hba.at 1 (y := .slice (some ⟨a, o, none⟩) s.kids.length cap1) rfl
      have d1 := hbb.at 1 (y := .slice (some ⟨b, o', none⟩) t.kids.length cap2) rfl
      have hBlt := hba.lt
      have HEw := Lib.hid hEwr
      have HKs := Lib.hid hks
      have HKt := Lib.hid hkt
      have HZk := Lib.hid hzk
      have HZt := Lib.hid hzt
      have HAll := Lib.hid hHall
      have HCl := Lib.hid (fun W (he : Ext wr W) => clone_kids a o cap1 s.kids.length xs W (by omega) hxlen (by omega) hHall.one fun j u hj => (HEw.out.trans he).cell ((HPa.out.at_ _ rfl).2 j u hj))
      clear hks hkt hzk hzt hEwr hbt hba hbb hHall hxlen hz1 hz2
      go_wp2_with fail
      go_cut [13] (fun v wc => ∃ (g5 cap5 : Nat) (cur : Array Value) (B5 : Nat), v = .pointer (some ⟨B5, 0, none⟩) ∧ Bx wc B5 #[.int .u8 s.sym, .slice (some ⟨g5, 0, none⟩) s.kids.length cap5] 149 ∧ wr.heap.size ≤ B5 ∧ wr.heap.size ≤ g5 ∧ g5 ≠ B5 ∧ s.kids.length ≤ cap5 ∧ Bx wc g5 cur 99 ∧ (∀ (j : Nat) (u : Value), xs[j]? = some u → cur[j]? = some u) ∧ Ext wr wc)
      case first =>
        go_wp2_with fail
        go_region_law (first
          | (go_simp; go_at_call 126; (with_reducible refine (HCl.out wr.drew (Ext.refl wr).drew).mono ?_); rintro e w5 ⟨g5, cap5, cur, rfl, hg5, hg5', hcap5, hbx5, hcur5, hE5⟩; have HBx5 := Lib.hid hbx5; have HCur := Lib.hid hcur5; have HE5 : Hid (Ext wr w5) := Lib.hid hE5.undrew; have b0' := HE5.out.cell b0; have hBlt5 : Na < w5.heap.size := Nat.lt_of_lt_of_le hBlt HE5.out.size; have b1' := HE5.out.cell b1; clear hbx5 hcur5 hE5)
          | (go_simp; go_at_call 126; (with_reducible refine (HCl.out (wr.alloc (.cells #[.int .u8 0, .slice none 0 0] 149)).drew (Ext.new wr _).drew).mono ?_); rintro e w5 ⟨g5, cap5, cur, rfl, hg5, hg5', hcap5, hbx5, hcur5, hE5⟩; have HBx5 := Lib.hid hbx5; have HCur := Lib.hid hcur5; have HE5 : Hid (Ext wr w5) := Lib.hid (Ext.trans (Ext.new wr _).drew hE5); have b0' := HE5.out.cell b0; have hBlt5 : Na < w5.heap.size := Nat.lt_of_lt_of_le hBlt HE5.out.size; have b1' := HE5.out.cell b1; have hbB : Bx w5 wr.heap.size #[.int .u8 0, .slice none 0 0] 149 := Bx.ext (Bx.new wr #[.int .u8 0, .slice none 0 0] 149).drew hE5; have k0 := hbB.at 0 (y := .int .u8 0) rfl; have k1 := hbB.at 1 (y := .slice none 0 0) rfl; have kf := hbB.free; have HBB := Lib.hid hbB; clear hbx5 hcur5 hE5 hbB))
        all_goals
          go_wp2_with fail
          go_meet
          first
            | exact ⟨g5, cap5, cur, w5.heap.size, rfl, Bx.new w5 _ _, HE5.out.size, hg5, Nat.ne_of_lt hg5', hcap5, HBx5.out.alloc _, HCur.out, HE5.out.trans (Ext.new _ _)⟩
            | exact clone_there hg5 hcap5 HBB.out HBx5.out HCur.out HE5.out
      case rest =>
        obtain ⟨g5, cap5, cur, B5, rfl, hbB, hB5, hg5, hne5, hcap5, hbg, hcur, hE5⟩ := hcut
        have hlen5 := HAll.out.length
        obtain ⟨yd, hyd⟩ : ∃ yd, xs[d]? = some yd := ⟨_, List.getElem?_eq_getElem (by omega)⟩
        have hcap5' : d < cap5 := by omega
        have k1 := hbB.at 1 (y := .slice (some ⟨g5, 0, none⟩) s.kids.length cap5) rfl
        have kd0 := hbg.at d (hcur d yd hyd)
        have kf := hbg.free d
        have kd1 := hE5.cell d1
        have kz2 := hE5.cell hz2'
        have hbB' := hbB.other (p := ⟨g5, d, none⟩) (Ne.symm hne5) (.iface T2 z2)
        obtain ⟨w7, hw7⟩ : ∃ w7, wc.setCell ⟨g5, d, none⟩ (.iface T2 z2) = w7 := ⟨_, rfl⟩
        rw [hw7] at hbB'
        have hg7 : wc.grownBy w7 (some g5) := hw7 ▸ grown_set wc ⟨g5, d, none⟩ (.iface T2 z2)
        have he7 : Ext wr w7 := hE5.grown hg7 (some_le hg5)
        have hbg7 : Bx w7 g5 (cur.setIfInBounds d (.iface T2 z2)) 99 := hw7 ▸ hbg.set d _
        have hrest : IsT Any w7 (s.put d kt) (tC s.sym (.slice (some ⟨g5, 0, none⟩) s.kids.length cap5)) := by
          refine IsT.made HKs.out (HAll.out.ext (HEw.out.trans he7)) (HZt.out.ext (HEw.out.trans he7)) trivial ?_
          intro i u hi
          rw [hbg7.cell]
          rw [List.getElem?_set] at hi
          by_cases hdi : d = i
          · subst hdi
            have hds : d < cur.size := (Array.getElem?_eq_some_iff.1 (hcur d yd hyd)).1
            rw [if_pos rfl] at hi
            split at hi
            · rw [Array.getElem?_setIfInBounds_self_of_lt hds]; exact hi
            · cases hi
          · rw [if_neg hdi] at hi
            rw [Array.getElem?_setIfInBounds_ne hdi]
            exact hcur i u hi
        have m0 := hbB'.at 0 (y := .int .u8 s.sym) rfl
        have m1 := hbB'.at 1 (y := .slice (some ⟨g5, 0, none⟩) s.kids.length cap5) rfl
        have mt0 := he7.cell t0
        have mz := he7.cell hz2'
        have md1 := he7.cell d1
        have hps : (s.put d kt).size ≤ 100000 := by
          have h1 := put_le s d kt
          have h2 := kid_size HKt.out
          omega
        have HSm := Lib.hid (same_any (s.put d kt) t (tC s.sym (.slice (some ⟨g5, 0, none⟩) s.kids.length cap5)) (.iface T y) w7.drew hps (by omega) (hrest.ext (Ext.refl w7).drew) (HY.out.ext ((HEw.out.trans he7).drew)))
        have HE7 := Lib.hid he7
        unfold tC at HSm
        clear hbB hbB' hbg hcur hE5 hyd hne5 hlen5 he7 hbg7 hrest hg7 hps
        by_cases hput : s.put d kt = t
        · have hsm := HSm.out
          rw [decide_eq_true hput] at hsm
          have HSm' := Lib.hid hsm
          have HPut := Lib.hid hput
          have HI := Lib.hid (fun W (he : Ext wr W) => IH.out d ks kt HKs.out HKt.out _ _ W (HEw.out.trans he) (HZk.out.ext (HEw.out.trans he)) (HZt.out.ext (HEw.out.trans he)))
          clear hsm HSm hput
          by_cases hin : kt ∈ nexts ls ks
          · have hi := fun W he => HI.out W he
            unfold LeadsTo at hi
            rw [decide_eq_true hin] at hi
            have HI' := Lib.hid hi
            have HIn := Lib.hid hin
            clear hi hin HI
            go_wp2_with fail
            go_still_tail 9, (by kernel_rfl)
            change wpList _ _ _ _ _ wc.drew
            go_wp2_with (first
              | ((with_reducible refine HSm'.out.mono ?_); clear HSm'; rintro e w8 ⟨rfl, hE8⟩; have HE8 := Lib.hid (HE7.out.drew.trans hE8); have md1' := hE8.cell md1; have mz' := hE8.cell mz; clear hE8)
              | ((with_reducible refine (HI'.out w8 HE8.out).mono ?_); clear HI'; rintro e w9 ⟨rfl, hE9⟩; have HE9 := Lib.hid (HE8.out.trans hE9); clear hE9))
            go_ret
            exact ⟨by rw [decide_eq_true (leads_yes HKs.out HPut.out HIn.out)]; rfl, HEw.out.trans HE9.out⟩
          · have hi := fun W he => HI.out W he
            unfold LeadsTo at hi
            rw [decide_eq_false hin] at hi
            have HI' := Lib.hid hi
            have HIn := Lib.hid hin
            clear hi hin HI
            go_wp2_with fail
            go_still_tail 9, (by kernel_rfl)
            change wpList _ _ _ _ _ wc.drew
            go_wp2_with (first
              | ((with_reducible refine HSm'.out.mono ?_); clear HSm'; rintro e w8 ⟨rfl, hE8⟩; have HE8 := Lib.hid (HE7.out.drew.trans hE8); have md1' := hE8.cell md1; have mz' := hE8.cell mz; clear hE8)
              | ((with_reducible refine (HI'.out w8 HE8.out).mono ?_); clear HI'; rintro e w9 ⟨rfl, hE9⟩; have HE9 := Lib.hid (HE8.out.trans hE9); clear hE9))
            go_roundg k
            case measure => omega
            case rel =>
              refine ⟨d + 1, by omega, congrArg (Value.int .i64) (by omega), HEr.out.trans HE9.out, fun d' h k r h1 h2 => ?_⟩
              by_cases hdd : d' < d
              · exact HNr.out d' hdd k r h1 h2
              · obtain rfl : d' = d := by omega
                obtain rfl : ks = k := Option.some.inj (HKs.out.symm.trans h1)
                obtain rfl : kt = r := Option.some.inj (HKt.out.symm.trans h2)
                exact fun hh => HIn.out hh.2
        · have hsm := HSm.out
          rw [decide_eq_false hput] at hsm
          have HSm' := Lib.hid hsm
          have HPut := Lib.hid hput
          clear hsm HSm hput
          go_wp2_with fail
          go_still_tail 9, (by kernel_rfl)
          change wpList _ _ _ _ _ wc.drew
          go_wp2_with ((with_reducible refine HSm'.out.mono ?_); clear HSm'; rintro e w8 ⟨rfl, hE8⟩; have HE8 := Lib.hid hE8; clear hE8)
          go_roundg k
          case measure => omega
          case rel =>
            refine ⟨d + 1, by omega, congrArg (Value.int .i64) (by omega), HEr.out.trans (HE7.out.drew.trans HE8.out), fun d' h k r h1 h2 => ?_⟩
            by_cases hdd : d' < d
            · exact HNr.out d' hdd k r h1 h2
            · obtain rfl : d' = d := by omega
              obtain rfl : kt = r := Option.some.inj (HKt.out.symm.trans h2)
              exact fun hh => HPut.out hh.1

theorem leads_any (ls : List (Tm × Tm)) (hn : ls.length ≤ 1000) (hC : ∀ l ∈ ls, l.2.size ≤ 12) (lv : Value) : ∀ (s t : Tm) (x y : Value) (w : World), s.size ≤ 60 → t.size ≤ 60 → IsLaws Any w lv ls → IsT Any w s x → IsT Any w t y →
    Calls Tryz.prog 78 #[lv, x, y] w (LeadsTo ls s t w) := by
  intro s
  induction s with
  | v i => exact fun t x y w hs ht hl hx hy => leads_step ls hn hC _ t lv x y w hs ht hl hx hy fun d k r h => by simp [Tm.kids] at h
  | k b => exact fun t x y w hs ht hl hx hy => leads_step ls hn hC _ t lv x y w hs ht hl hx hy fun d k r h => by simp [Tm.kids] at h
  | u b s ih =>
    intro t x y w hs ht hl hx hy
    refine leads_step ls hn hC _ t lv x y w hs ht hl hx hy fun d k r h h' x' y' w' he hx' hy' => ?_
    simp only [Tm.size] at hs
    have h2 := kid_size h'
    match d, h with
    | 0, h => simp [Tm.kids] at h; subst h; exact ih r x' y' w' (by omega) (by omega) (hl.ext he) hx' hy'
  | p b s1 s2 ih1 ih2 =>
    intro t x y w hs ht hl hx hy
    refine leads_step ls hn hC _ t lv x y w hs ht hl hx hy fun d k r h h' x' y' w' he hx' hy' => ?_
    simp only [Tm.size] at hs
    have h2 := kid_size h'
    match d, h with
    | 0, h => simp [Tm.kids] at h; subst h; exact ih1 r x' y' w' (by omega) (by omega) (hl.ext he) hx' hy'
    | 1, h => simp [Tm.kids] at h; subst h; exact ih2 r x' y' w' (by omega) (by omega) (hl.ext he) hx' hy'

end Go.Proofs.YtholmlkjcobkdaaGreat
