/- What rules make of a term as a whole. -/
import Derived.Test.YtholmlkjcobkdaaGreatLaws
namespace Go.Proofs.YtholmlkjcobkdaaGreat
set_option linter.all false
set_option linter.unusedSimpArgs false
set_option linter.unusedVariables false
open Go.RowKit
set_option maxRecDepth 100000

theorem flatL_get : ∀ (ls : List (Tm × Tm)) (d : Nat) (s t : Tm), ls[d]? = some (s, t) → (flatL ls)[d * 2]? = some s ∧ (flatL ls)[d * 2 + 1]? = some t
  | [], d, s, t, h => by simp at h
  | (a, b) :: l, 0, s, t, h => by simp at h; obtain ⟨rfl, rfl⟩ := h; simp [flatL]
  | (a, b) :: l, d + 1, s, t, h => by
    simp only [List.getElem?_cons_succ] at h
    have ih := flatL_get l d s t h
    rw [show flatL ((a, b) :: l) = a :: b :: flatL l by simp [flatL]]
    rw [show (d + 1) * 2 = d * 2 + 1 + 1 by omega]
    simpa using ih

theorem IsLaws.get {S : Nat → Prop} {w : World} {v : Value} {ls : List (Tm × Tm)} (h : IsLaws S w v ls) {d : Nat} {s t : Tm} (hd : ls[d]? = some (s, t)) :
    ∃ a o cap x y, v = .slice (some ⟨a, o, none⟩) ls.length cap ∧ ls.length ≤ cap ∧ w.cell? ⟨a, o + d * 2, none⟩ = some x ∧ w.cell? ⟨a, o + d * 2 + 1, none⟩ = some y ∧ IsT S w s x ∧ IsT S w t y := by
  rcases h with ⟨rfl, -⟩ | ⟨a, o, cap, xs, h1, h2, h3, h4, h5⟩
  · simp at hd
  · obtain ⟨g1, g2⟩ := flatL_get ls d s t hd
    obtain ⟨x, hx, hs⟩ := h5.get _ _ g1
    obtain ⟨y, hy, ht⟩ := h5.get _ _ g2
    exact ⟨a, o, cap, x, y, h1, h3, h4 _ _ hx, by have := h4 _ _ hy; rwa [← Nat.add_assoc] at this, hs, ht⟩

theorem IsLaws.slice {S : Nat → Prop} {w : World} {v : Value} {ls : List (Tm × Tm)} (h : IsLaws S w v ls) : ∃ p c, v = .slice p ls.length c := by
  rcases h with ⟨rfl, a, c, rfl⟩ | ⟨a, o, cap, xs, h1, -⟩
  · exact ⟨_, _, rfl⟩
  · exact ⟨_, _, h1⟩

def rootT (ls : List (Tm × Tm)) (t : Tm) : List Tm := ls.filterMap fun l => (l.1.mt t fun _ => none).map fun σ => l.2.sub σ

/-- Terms that the call has made: the slice is its own; parts lie where they lay, or are new. -/
def Makes (S : Nat → Prop) (w : World) (ts : List Tm) (e : Ending) (w' : World) : Prop :=
  ∃ v, e = .returned v ∧ OwnT w.heap.size (fun b => S b ∨ w.heap.size ≤ b) w' v ts ∧ Ext w w'

theorem rootT_snoc {ls : List (Tm × Tm)} {d : Nat} {l r : Tm} (h : ls[d]? = some (l, r)) (t : Tm) : rootT (ls.take (d + 1)) t = rootT (ls.take d) t ++ ((l.mt t fun _ => none).map fun σ => r.sub σ).toList := by
  rw [List.take_add_one, h]
  simp only [rootT, List.filterMap_append, Option.toList_some]
  cases h : (l.mt t fun _ => none) <;> simp [h]

theorem rootT_length (ls : List (Tm × Tm)) (t : Tm) : (rootT ls t).length ≤ ls.length := List.length_filterMap_le _ _

set_option maxHeartbeats 4000000 in
theorem root_any {S : Nat → Prop} (ls : List (Tm × Tm)) (t : Tm) (lv x : Value) (w : World) (hn : ls.length ≤ 1000) (hts : t.size ≤ 100000) (hS : ∀ b, S b → b < w.heap.size) (hl : IsLaws S w lv ls) (ht : IsT S w t x) :
    Calls Tryz.prog 123 #[lv, x] w (Makes S w (rootT ls t)) := by
  obtain ⟨p, c, rfl⟩ := hl.slice
  obtain ⟨T, x, rfl⟩ := ht.iface
  have hmm := @run_makeMap Tryz.prog
  have HS := Lib.hid hS
  have HL := Lib.hid hl
  have HT := Lib.hid ht
  clear hl ht hS
  go_enter Tryz.func123, Tryz.ntmps123
  go_wp2_with fail
  go_loopg [5, 11] ls.length (fun k v i wr => ∃ d, d + k = ls.length ∧ i = .int .i64 d ∧ OwnT w.heap.size (fun b => S b ∨ w.heap.size ≤ b) wr v (rootT (ls.take d) t) ∧ Ext w wr)
  case atStart => exact ⟨0, by simp, rfl, OwnT.nil _ _ _, Ext.refl _⟩
  case round =>
    obtain ⟨d, hd, rfl, hown, hE⟩ := hrel
    have HOwn := Lib.hid hown
    have HE := Lib.hid hE
    clear hown hE
    cases gk with
    | zero =>
      obtain rfl : d = ls.length := by omega
      go_wp2_with fail
      go_ret
      have h := HOwn.out
      rw [List.take_length] at h
      exact ⟨_, rfl, h, HE.out⟩
    | succ k =>
      have hdl : d < ls.length := by omega
      have hdl' : (d : Int) < (ls.length : Int) := by omega
      obtain ⟨⟨l, r⟩, hlr⟩ : ∃ q, ls[d]? = some q := ⟨_, List.getElem?_eq_getElem hdl⟩
      obtain ⟨a, o, cap, y, z, hv, hcap, hc0, hc1, hy, hz⟩ := HL.out.get hlr
      cases hv
      obtain ⟨U, y, rfl⟩ := hy.iface
      obtain ⟨V, z, rfl⟩ := hz.iface
      have d0 := HE.out.cell hc0
      have d1 := HE.out.cell hc1
      have HLR := Lib.hid hlr
      have HY := Lib.hid (hy.ext HE.out)
      have HZ := Lib.hid (hz.ext HE.out)
      clear hlr hc0 hc1 hy hz
      have hb0 : Bx ((wr.alloc (.cells #[.iface U y, .iface V z] 144)).alloc (.map #[] 0)) wr.heap.size #[.iface U y, .iface V z] 144 := (Bx.new wr _ _).alloc _
      have hm0 : Mp encV ((wr.alloc (.cells #[.iface U y, .iface V z] 144)).alloc (.map #[] 0)) (wr.heap.size + 1) [] := by
        have h := Mp.made encV (wr.alloc (.cells #[.iface U y, .iface V z] 144))
        rwa [World.size_alloc] at h
      have hE0 : Ext wr ((wr.alloc (.cells #[.iface U y, .iface V z] 144)).alloc (.map #[] 0)) := (Ext.new _ _).alloc _
      have hm := match_any (wr.heap.size + 1) l t (.iface U y) (.iface T x) [] (fun _ => none) _ small_none hts hm0 (sub_none S _) (HY.out.ext hE0) (HT.out.ext (HE.out.trans hE0))
      have HM := Lib.hid hm
      have HB0 := Lib.hid hb0
      have HE0 := Lib.hid hE0
      have HM0 := Lib.hid hm0
      clear hm hb0 hE0 hm0
      obtain ⟨xs, hown, hat⟩ := HOwn.out
      have hbase : w.heap.size ≤ wr.heap.size := HE.out.size
      have hlt := HOwn.out.lt
      have HLt := Lib.hid hlt
      have hlen : (rootT (ls.take d) t).length ≤ 1000000000 := by
        have h := rootT_length (ls.take d) t
        simp at h
        omega
      have HXs := Lib.hid hown
      have HAt := Lib.hid hat
      clear hown hat hlt
      go_wp2_with (first
        | ((with_reducible refine HM.out.mono ?_); clear HM; rintro e w1 ⟨hg, hh⟩; have c1 := (HB0.out.grown hg (ne_some (by omega))).at 1 (y := .iface V z) rfl; have HE1 : Hid (Ext wr w1) := Lib.hid (HE0.out.grown hg (some_le (Nat.le_succ _))); clear hg; rcases hh with ⟨σ, m, ho, rfl, hm1, hs1⟩ | ⟨ho, rfl⟩; have HO := Lib.hid ho; have HW := Lib.hid (with_inv hm1 hs1 (HZ.out.ext HE1.out)); clear ho hm1 hs1 d0 d1)
        | ((refine wpList_invoke1 (.iface V z) (.map (some (wr.heap.size + 1))) (by rfl) (by rfl) ?_); intro K hK; refine HW.out.mono ?_; clear HW; rintro e w2 ⟨T2, y2, rfl, ht2, hE2⟩; have HT2 := Lib.hid ht2; have HE2 := Lib.hid (HE1.out.trans hE2); have hsz2 : w1.heap.size ≤ w2.heap.size := hE2.size; have hb2 : w.heap.size ≤ w2.heap.size := Nat.le_trans HE.out.size HE2.out.size; have HXs2 := Lib.hid (owns_ext HXs.out HE2.out); clear ht2 hE2)
        | ((refine push_term w.heap.size u5 (rootT (ls.take d) t).length xs (.iface T2 y2) (by rfl) HXs2.out (by rfl) rfl hlen hb2 ?_); rintro v7 w7 ⟨h71, h72, g, cap, rfl, hgl, hgs⟩; have HP : Hid (Pushed w2 w.heap.size 99 u5 (rootT (ls.take d) t).length xs (.iface T2 y2) (.slice (some ⟨g, 0, none⟩) ((rootT (ls.take d) t).length + 1) cap) w7) := Lib.hid ⟨h71, h72, g, cap, rfl, hgl, hgs⟩; clear h71 h72 hgl hgs))
      · go_roundg k
        case measure => omega
        case rel =>
          have hs1 : wr.heap.size ≤ w1.heap.size := HE1.out.size
          refine ⟨d + 1, by omega, congrArg (Value.int .i64) (by omega), ?_, ?_⟩
          · rw [rootT_snoc HLR.out, HO.out]
            refine OwnT.push (HAt.out.ext HE2.out) (HT2.out.mono fun b hb => ?_) HP.out
            rcases hb with hb | hb
            · exact ⟨.inl hb, fun e => by have h1 := HLt.out b e.symm; have h2 := HS.out b hb; omega⟩
            · exact ⟨.inr (by omega), fun e => by have h1 := HLt.out b e.symm; omega⟩
          · exact (HE.out.trans HE2.out).grown HP.out.2.1 fun b e => (HLt.out b e).1
      · have HO := Lib.hid ho
        clear ho
        go_roundg k
        case measure => omega
        case rel => exact ⟨d + 1, by omega, congrArg (Value.int .i64) (by omega), by rw [rootT_snoc HLR.out, HO.out]; simpa using HOwn.out.ext HE1.out, HE.out.trans HE1.out⟩

end Go.Proofs.YtholmlkjcobkdaaGreat
