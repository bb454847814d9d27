/- The path order: the walks. -/
import Derived.Test.YtholmlkjcobkdaaGreatKeys2
namespace Go.Proofs.YtholmlkjcobkdaaGreat
set_option linter.all false
set_option linter.unusedSimpArgs false
set_option linter.unusedVariables false
open Go.RowKit
set_option maxRecDepth 100000

/-- What the map of known comparisons says is so. -/
def Good (rk : Int → Int) (m : List ((Str × Str) × Value)) : Prop := ∀ s t : Tm, getA (s.text, t.text) m = none ∨ getA (s.text, t.text) m = some (.bool (s.gt rk t))

def Known (rk : Int → Int) (K : Nat) (w : World) : Prop := ∃ m, Mp encSS w K m ∧ Good rk m
def Ranks (rk : Int → Int) (R : Nat) (w : World) : Prop := ∃ m, Mp encB w R m ∧ ∀ c : UInt8, 97 ≤ c.toNat → c.toNat ≤ 102 → getA c m = some (.int .i64 (rk (c.toNat : Int)))

theorem Good.put {rk : Int → Int} {m : List ((Str × Str) × Value)} (h : Good rk m) (s t : Tm) : Good rk (putA (s.text, t.text) (.bool (s.gt rk t)) m) := by
  intro s' t'
  by_cases he : (s'.text, t'.text) = (s.text, t.text)
  · obtain ⟨h1, h2⟩ := Prod.mk.inj he
    obtain rfl := Tm.text_inj h1
    obtain rfl := Tm.text_inj h2
    exact .inr (getA_put_same _ _ _)
  · rw [getA_put_other he]
    exact h s' t'

/-- The world holds a precedence. -/
structure GW (rk : Int → Int) (R K : Nat) (w : World) : Prop where
  ranks : Ranks rk R w
  known : Known rk K w
  ne : R ≠ K

theorem Known.keeps {rk : Int → Int} {K : Nat} {w w' : World} (h : Known rk K w) (hg : w.grownBy w' (some K)) {S : Nat → Prop} {t : Tm} {x : Value} (hx : IsT S w t x) : IsT S w' t x := by
  obtain ⟨m, hm, -⟩ := h
  exact hx.keep (hm.keeps hg)
theorem Known.apart {rk : Int → Int} {K : Nat} {w : World} (h : Known rk K w) {a o : Nat} {y : Value} (hc : w.cell? ⟨a, o, none⟩ = some y) : a ≠ K := by
  obtain ⟨m, hm, -⟩ := h
  exact hm.apart hc
theorem Known.ext {rk : Int → Int} {K : Nat} {w w' : World} (h : Known rk K w) (he : Ext w w') : Known rk K w' := by
  obtain ⟨m, hm, hg⟩ := h
  exact ⟨m, hm.ext he, hg⟩
theorem Known.lt {rk : Int → Int} {K : Nat} {w : World} (h : Known rk K w) : K < w.heap.size := by
  obtain ⟨m, hm, -⟩ := h
  exact hm.lt
theorem GW.step {rk : Int → Int} {R K : Nat} {w w' : World} (h : GW rk R K w) (hg : w.grownBy w' (some K)) (hk : Known rk K w') : GW rk R K w' := by
  obtain ⟨m, hm, hr⟩ := h.ranks
  exact ⟨⟨m, hm.grown hg (ne_some h.ne), hr⟩, hk, h.ne⟩
theorem GW.ext {rk : Int → Int} {R K : Nat} {w w' : World} (h : GW rk R K w) (he : Ext w w') : GW rk R K w' := h.step (he.grows' _) (h.known.ext he)

/-- What a comparison comes to. -/
def Gts (rk : Int → Int) (K : Nat) (b : Bool) (w : World) (e : Ending) (w' : World) : Prop := e = .returned (.bool b) ∧ Known rk K w' ∧ w.grownBy w' (some K)

theorem under_known : Tryz.prog.underlying 118 = some (.map 42 4) := by kernel_rfl
theorem under_rank : Tryz.prog.underlying 117 = some (.map 5 3) := by kernel_rfl
theorem zero_bool (w : World) : (zeroValue 4).run Tryz.prog w = .ok (.bool false) w := by kernel_rfl
theorem zero_int (w : World) : (zeroValue 3).run Tryz.prog w = .ok (.int .i64 0) w := by kernel_rfl

set_option maxHeartbeats 4000000 in
theorem greater_step {S S' : Nat → Prop} (rk : Int → Int) (R K : Nat) (s t : Tm) (x y : Value) (w : World) (hss : s.size ≤ 100000) (hts : t.size ≤ 100000) (hw : GW rk R K w) (hx : IsT S w s x) (hy : IsT S' w t y)
    (hc : ∀ w', Ext w w' → Calls Tryz.prog 130 #[.agg #[.map (some R), .map (some K)], x, y] w' (Gts rk K (s.gt rk t) w')) :
    Calls Tryz.prog 93 #[.agg #[.map (some R), .map (some K)], x, y] w (Gts rk K (s.gt rk t) w) := by
  have h1 := Lib.hid (text_inv s x w hss hx)
  have h2 := Lib.hid (text_inv t y w hts hy)
  obtain ⟨T, x, rfl⟩ := hx.iface
  obtain ⟨U, y, rfl⟩ := hy.iface
  have HW := Lib.hid hw
  have HC := Lib.hid hc
  clear hx hy hw hc
  go_enter Tryz.func93, Tryz.ntmps93
  go_upto_region 2 with (first
    | (refine wpList_invoke0 (.iface T x) rfl ?_; intro K' hK; refine (h1.out _ (Ext.new _ _)).mono ?_; clear h1; rintro e w1 ⟨rfl, hb1⟩; have HE1 := Lib.hid (Ext.trans (Ext.new w (.cells #[.map (some R), .map (some K)] 120)) hb1); have hbx := (Bx.new w #[.map (some R), .map (some K)] 120).ext hb1; have HB1 := Lib.hid hbx; clear hb1 hbx)
    | (refine wpList_invoke0 (.iface U y) rfl ?_; intro K' hK; refine (h2.out _ HE1.out).mono ?_; clear h2; rintro e w2 ⟨rfl, hb2⟩; unfold str; have HE2 := Lib.hid (HE1.out.trans hb2); have HB2 := Lib.hid (HB1.out.ext hb2); clear hb2))
  have hE3 : Ext w (w2.alloc (.cells #[.string ⟨s.text.toArray⟩, .string ⟨t.text.toArray⟩] 42)) := HE2.out.trans (Ext.new _ _)
  have hb3 := HB2.out.alloc (.cells #[.string ⟨s.text.toArray⟩, .string ⟨t.text.toArray⟩] 42)
  have hk3 : Bx (w2.alloc (.cells #[.string ⟨s.text.toArray⟩, .string ⟨t.text.toArray⟩] 42)) w2.heap.size #[.string ⟨s.text.toArray⟩, .string ⟨t.text.toArray⟩] 42 := Bx.new _ _ _
  have hBK : w.heap.size ≤ w2.heap.size := HE2.out.size
  generalize w2.alloc (.cells #[.string ⟨s.text.toArray⟩, .string ⟨t.text.toArray⟩] 42) = w3 at hE3 hb3 hk3 ⊢
  generalize w2.heap.size = B at hk3 hBK ⊢
  clear HE1 HB1 HE2 HB2
  have hK3 := HW.out.known.ext hE3
  have hKlt := HW.out.known.lt
  have HE3 := Lib.hid hE3
  have HB3 := Lib.hid hb3
  have HK3 := Lib.hid hk3
  obtain ⟨m, hm, hg⟩ := hK3
  have HM := Lib.hid hm
  have HG := Lib.hid hg
  have p0 := hb3.at 1 (y := .map (some K)) rfl
  have p1 := hb3.at 0 (y := .map (some R)) rfl
  have q0 := hk3.at 0 (y := .string ⟨s.text.toArray⟩) rfl
  have q1 := hk3.at 1 (y := .string ⟨t.text.toArray⟩) rfl
  clear hE3 hb3 hk3 hm hg
  rcases HG.out s t with h0 | h0
  · have ht1 : (.tuple #[(getA (s.text, t.text) m).getD (.bool false), .bool (getA (s.text, t.text) m).isSome] : Value) = .tuple #[.bool false, .bool false] := by rw [h0]; rfl
    clear h0
    have HCm := Lib.hid (HC.out w3 HE3.out)
    have hput := getA_put_same (s.text, t.text) (Value.bool (s.gt rk t))
    go_wp2_with (first
      | (at_lookup; refine wpList_look_ok keysSS under_known zero_bool HM.out (s.text, t.text) (by rfl) (by rfl) ?_; rw [ht1])
      | ((with_reducible refine HCm.out.mono ?_); clear HCm; rintro e w5 ⟨rfl, ⟨m5, hm5, hg5⟩, hgr5⟩; have HM5 := Lib.hid hm5; have HG5 := Lib.hid hg5; have HGr5 := Lib.hid hgr5; have hb5 := HB3.out.grown hgr5 (ne_some (by omega)); have hk5 := HK3.out.grown hgr5 (ne_some (by omega)); have HB5 := Lib.hid hb5; have HK5 := Lib.hid hk5; have p05 := hb5.at 1 (y := .map (some K)) rfl; have q05 := hk5.at 0 (y := .string ⟨s.text.toArray⟩) rfl; have q15 := hk5.at 1 (y := .string ⟨t.text.toArray⟩) rfl; clear hm5 hg5 hgr5 hb5 hk5)
      | (at_mapUpdate; refine wpList_mput keysSS under_known HM5.out (s.text, t.text) (.bool (s.gt rk t)) (by rfl) (by rfl) (by rfl) ?_; rintro w6 hm6 hgr6 -; have ht6 := hput m5; have HM6 := Lib.hid hm6; have HGr6 := Lib.hid (HGr5.out.trans hgr6); have hb6 := HB5.out.grown hgr6 (ne_some (by omega)); have hk6 := HK5.out.grown hgr6 (ne_some (by omega)); have p06 := hb6.at 1 (y := .map (some K)) rfl; have q06 := hk6.at 0 (y := .string ⟨s.text.toArray⟩) rfl; have q16 := hk6.at 1 (y := .string ⟨t.text.toArray⟩) rfl; have ht7 : (getA (s.text, t.text) (putA (s.text, t.text) (.bool (s.gt rk t)) m5)).getD (.bool false) = .bool (s.gt rk t) := (by rw [ht6]; rfl); clear hm6 hgr6 hb6 hk6 ht6)
      | (at_lookup; refine wpList_look keysSS under_known zero_bool HM6.out (s.text, t.text) (by rfl) (by rfl) ?_; rw [ht7]))
    go_ret
    exact ⟨rfl, ⟨_, HM6.out, HG5.out.put s t⟩, (HE3.out.grows' _).trans HGr6.out⟩
  · have ht1 : (.tuple #[(getA (s.text, t.text) m).getD (.bool false), .bool (getA (s.text, t.text) m).isSome] : Value) = .tuple #[.bool (s.gt rk t), .bool true] := by rw [h0]; rfl
    have ht2 : (getA (s.text, t.text) m).getD (.bool false) = .bool (s.gt rk t) := by rw [h0]; rfl
    clear h0
    go_wp2_with (first
      | (at_lookup; refine wpList_look_ok keysSS under_known zero_bool HM.out (s.text, t.text) (by rfl) (by rfl) ?_; rw [ht1])
      | (at_lookup; refine wpList_look keysSS under_known zero_bool HM.out (s.text, t.text) (by rfl) (by rfl) ?_; rw [ht2]))
    go_ret
    exact ⟨rfl, ⟨m, HM.out, HG.out⟩, HE3.out.grows' _⟩

end Go.Proofs.YtholmlkjcobkdaaGreat
