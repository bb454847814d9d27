/- The next terms of a term. -/
import Derived.Test.YtholmlkjcobkdaaGreatNextP
import Derived.Deep.DeepCutAuto
import Derived.Deep.CutBlock
namespace Go.Proofs.YtholmlkjcobkdaaGreat
set_option linter.all false
set_option linter.unusedSimpArgs false
set_option linter.unusedVariables false
open Go.RowKit
set_option maxRecDepth 100000

def NextsOf (S : Nat → Prop) (ls : List (Tm × Tm)) (t : Tm) (w : World) (e : Ending) (w' : World) : Prop :=
  ((∀ u ∈ nexts ls t, u.size ≤ 60) ∧ Makes S w (nexts ls t) e w') ∨ ((∃ u ∈ nexts ls t, 60 < u.size) ∧ e = .panicked (tr 5) ∧ Ext w w')

/-- The test whether a term is a compound: the compound, or nothing. -/
theorem as_comp {S : Nat → Prop} {w : World} {t : Tm} {x : Value} (h : IsT S w t x) : ∃ c p cap b, (∀ W, (Instr.typeAssert x 99 149 true).run Tryz.prog W = .ok (.tuple #[.agg #[.int .u8 c, .slice p t.kids.length cap], .bool b]) W) ∧ b = !t.isV ∧
    (t.isV = false → c = t.sym ∧ x = tC c (.slice p t.kids.length cap)) := by
  cases t with
  | v i => obtain rfl : x = tV i := h; exact ⟨_, _, _, _, fun W => as_tv i W, rfl, fun h => by simp [Tm.isV] at h⟩
  | k b => obtain rfl : x = tC (kI b) (.slice none 0 0) := h; exact ⟨_, _, _, _, fun W => as_tc _ _ W, rfl, fun _ => ⟨rfl, rfl⟩⟩
  | u b t => obtain ⟨a, o, cap, y, rfl, -⟩ := h; exact ⟨_, _, _, _, fun W => as_tc _ _ W, rfl, fun _ => ⟨rfl, rfl⟩⟩
  | p b s t => obtain ⟨a, o, cap, y, z, rfl, -⟩ := h; exact ⟨_, _, _, _, fun W => as_tc _ _ W, rfl, fun _ => ⟨rfl, rfl⟩⟩

theorem OwnT.slice {base : Nat} {S : Nat → Prop} {w : World} {v : Value} {ts : List Tm} (h : OwnT base S w v ts) : ∃ p c, v = .slice p ts.length c := by
  obtain ⟨xs, ⟨_, ⟨rfl, h0⟩ | ⟨g, cap, cur, rfl, -⟩⟩, -⟩ := h
  · exact ⟨none, 0, by rw [h0]⟩
  · exact ⟨_, _, rfl⟩

theorem kid_big {ls : List (Tm × Tm)} {t k : Tm} {d : Nat} (hk : t.kids[d]? = some k) (hd : d < t.kids.length) (h : ∃ u ∈ nexts ls k, 60 < u.size) : ∃ u ∈ nexts ls t, 60 < u.size := by
  obtain ⟨u, hu, hs⟩ := h
  refine ⟨t.put d u, (nextD_prefix ls t hd).subset ?_, Nat.lt_of_lt_of_le hs (put_size hk u)⟩
  rw [nextD_succ hk]
  exact List.mem_append.2 (.inr (List.mem_map.2 ⟨u, hu, rfl⟩))

/-- Where the walk stands between two parts, or two of a part's next terms. -/
def NSt (S : Nat → Prop) (w : World) (B : Nat) (cs : Int) (pv : Value) (v : Value) (ts : List Tm) (wr : World) : Prop :=
  OwnT w.heap.size (fun b => S b ∨ w.heap.size ≤ b) wr v ts ∧ Ext w wr ∧ Bx wr B #[.int .u8 cs, pv] 149 ∧ w.heap.size ≤ B ∧ some B ≠ v.ownBlock

/-- What is left of a part's next terms: they lie apart from the slice that grows. -/
def NRes (S : Nat → Prop) (w : World) (v : Value) (g : Nat) (xs : List Value) (rs : List Tm) (wr : World) : Prop :=
  (∀ j u, xs[j]? = some u → wr.cell? ⟨g, j, none⟩ = some u) ∧ (rs ≠ [] → some g ≠ v.ownBlock) ∧ AllT (fun b => (S b ∨ w.heap.size ≤ b) ∧ some b ≠ v.ownBlock) wr rs xs

theorem NSt.ext {S : Nat → Prop} {w : World} {B : Nat} {cs : Int} {pv v : Value} {ts : List Tm} {wr w' : World} (h : NSt S w B cs pv v ts wr) (he : Ext wr w') : NSt S w B cs pv v ts w' :=
  ⟨h.1.ext he, h.2.1.trans he, h.2.2.1.ext he, h.2.2.2⟩

theorem NRes.ext {S : Nat → Prop} {w : World} {v : Value} {g : Nat} {xs : List Value} {rs : List Tm} {wr w' : World} (h : NRes S w v g xs rs wr) (he : Ext wr w') : NRes S w v g xs rs w' :=
  ⟨fun j u hj => he.cell (h.1 j u hj), h.2.1, h.2.2.ext he⟩

theorem NRes.start {S : Nat → Prop} {w w0 w2 : World} {B : Nat} {cs : Int} {pv v : Value} {ts rs : List Tm} {p2 : Option Addr} {c2 : Nat} (hS : ∀ b, S b → b < w.heap.size) (h : NSt S w B cs pv v ts w0)
    (ho : OwnT w0.heap.size (fun b => S b ∨ w0.heap.size ≤ b) w2 (.slice p2 rs.length c2) rs) (he : Ext w0 w2) : ∃ g ys, (rs ≠ [] → p2 = some ⟨g, 0, none⟩ ∧ rs.length ≤ c2) ∧ NRes S w v g ys rs w2 := by
  obtain ⟨ys, h1, h2⟩ := ho
  have hlt := h.1.lt
  have hsz := h.2.1.size
  have hall : AllT (fun b => (S b ∨ w.heap.size ≤ b) ∧ some b ≠ v.ownBlock) w2 rs ys := h2.mono fun b hb => by
    rcases hb.1 with hb | hb
    · exact ⟨.inl hb, fun e => by have h1 := hlt b e.symm; have h2 := hS b hb; omega⟩
    · exact ⟨.inr (by omega), fun e => by have h1 := hlt b e.symm; omega⟩
  by_cases hr : rs = []
  · subst hr
    have : ys = [] := by cases ys with
      | nil => rfl
      | cons a l => exact hall.elim
    subst this
    exact ⟨0, [], fun h => absurd rfl h, fun j u hj => by simp at hj, fun h => absurd rfl h, hall⟩
  · obtain ⟨g, cap, hv, hb, hl, hc, hcell, -⟩ := owns_form h1 (List.length_pos_iff.2 hr)
    cases hv
    exact ⟨g, ys, fun _ => ⟨rfl, hc⟩, hcell, fun _ e => by have h1 := hlt g e.symm; omega, hall⟩

theorem NSt.push {S : Nat → Prop} {w : World} {B : Nat} {cs : Int} {pv v v' x : Value} {ts rs : List Tm} {t : Tm} {w7 w9 : World} {g : Nat} {ys xs : List Value} (h : NSt S w B cs pv v ts w7) (hr : NRes S w v g ys rs w7)
    (hat : AllT (fun b => (S b ∨ w.heap.size ≤ b) ∧ some b ≠ v.ownBlock) w7 ts xs) (ht : IsT (fun b => (S b ∨ w.heap.size ≤ b) ∧ some b ≠ v.ownBlock) w7 t x) (hp : Pushed w7 w.heap.size 99 v ts.length xs x v' w9) :
    NSt S w B cs pv v' (ts ++ [t]) w9 ∧ NRes S w v' g ys rs w9 := by
  have ho := OwnT.push hat ht hp
  obtain ⟨h1, h2, g9, cap, rfl, hg, hlt⟩ := hp
  have hap : ∀ b, b < w7.heap.size → some b ≠ v.ownBlock → some b ≠ (Value.slice (some ⟨g9, 0, none⟩) (ts.length + 1) cap).ownBlock := by
    intro b hb hn e
    simp only [Value.ownBlock, Option.some.injEq] at e
    subst e
    rcases hg with hg | hg
    · exact hn hg.symm
    · omega
  refine ⟨⟨ho, h.2.1.grown h2 fun k e => (h.1.lt k e).1, h.2.2.1.grown h2 h.2.2.2.2, h.2.2.2.1, hap _ h.2.2.1.lt h.2.2.2.2⟩, ?_, ?_, ?_⟩
  · intro j u hj
    refine h2.cell (a := ⟨g, j, none⟩) (hr.1 j u hj) (hr.2.1 fun e => ?_)
    subst e
    have := hr.2.2.length
    cases ys with
    | nil => simp at hj
    | cons a l => simp at this
  · intro hne
    have hy : ∃ u, ys[0]? = some u := by
      have := hr.2.2.length
      cases ys with
      | nil => simp at this; exact absurd this hne
      | cons a l => exact ⟨a, rfl⟩
    obtain ⟨u, hu⟩ := hy
    exact hap g (lt_of_cell (hr.1 0 u hu)) (hr.2.1 hne)
  · exact hr.2.2.keep fun a o y hS hc => ⟨h2.cell (a := ⟨a, o, none⟩) hc hS.2, hS.1, hap a (lt_of_cell hc) hS.2⟩

theorem clone_there {wr w5 : World} {c : Int} {g5 cap5 n : Nat} {cur : Array Value} {xs : List Value} {o : Obj} (hg5 : (wr.alloc o).drew.heap.size ≤ g5) (hcap : n ≤ cap5) (hb : Bx w5 wr.heap.size #[.int .u8 0, .slice none 0 0] 149) (hg : Bx w5 g5 cur 99)
    (hc : ∀ (j : Nat) (u : Value), xs[j]? = some u → cur[j]? = some u) (he : Ext wr w5) :
    ∃ (g : Nat) (cap : Nat) (cur : Array Value) (B5 : Nat), Value.pointer (some ⟨wr.heap.size, 0, none⟩) = .pointer (some ⟨B5, 0, none⟩) ∧ Bx ((w5.setCell ⟨wr.heap.size, 0, none⟩ (.int .u8 c)).setCell ⟨wr.heap.size, 1, none⟩ (.slice (some ⟨g5, 0, none⟩) n cap5)) B5 #[.int .u8 c, .slice (some ⟨g, 0, none⟩) n cap] 149 ∧ wr.heap.size ≤ B5 ∧ wr.heap.size ≤ g ∧ g ≠ B5 ∧ n ≤ cap ∧
      Bx ((w5.setCell ⟨wr.heap.size, 0, none⟩ (.int .u8 c)).setCell ⟨wr.heap.size, 1, none⟩ (.slice (some ⟨g5, 0, none⟩) n cap5)) g cur 99 ∧ (∀ (j : Nat) (u : Value), xs[j]? = some u → cur[j]? = some u) ∧
      Ext wr ((w5.setCell ⟨wr.heap.size, 0, none⟩ (.int .u8 c)).setCell ⟨wr.heap.size, 1, none⟩ (.slice (some ⟨g5, 0, none⟩) n cap5)) := by
  have h1 : wr.heap.size + 1 ≤ g5 := by
    have h2 : (wr.alloc o).heap.size ≤ g5 := hg5
    simpa using h2
  have hne : g5 ≠ wr.heap.size := by omega
  refine ⟨g5, cap5, cur, wr.heap.size, rfl, (hb.set 0 _).set 1 _, Nat.le_refl _, by omega, hne, hcap, (hg.other (p := ⟨wr.heap.size, 0, none⟩) hne _).other (p := ⟨wr.heap.size, 1, none⟩) hne _, hc, ?_⟩
  exact (he.grown (grown_set _ ⟨wr.heap.size, 0, none⟩ _) (some_le (Nat.le_refl _))).grown (grown_set _ ⟨wr.heap.size, 1, none⟩ _) (some_le (Nat.le_refl _))

set_option maxHeartbeats 8000000 in
theorem next_step {S : Nat → Prop} (ls : List (Tm × Tm)) (hn : ls.length ≤ 1000) (hC : ∀ l ∈ ls, l.2.size ≤ 12) (t : Tm) (lv x : Value) (w : World) (hts : t.size ≤ 60) (hS : ∀ b, S b → b < w.heap.size)
    (hl : IsLaws S w lv ls) (ht : IsT S w t x) (ih : ∀ k ∈ t.kids, ∀ y w', Ext w w' → IsT S w' k y → Calls Tryz.prog 99 #[lv, y] w' (NextsOf S ls k w')) :
    Calls Tryz.prog 99 #[lv, x] w (NextsOf S ls t w) := by
  obtain ⟨p, c, rfl⟩ := hl.slice
  have HR := Lib.hid (root_any ls t _ x w hn (by omega) hS hl ht)
  have HS := Lib.hid hS
  have HL := Lib.hid hl
  have HT := Lib.hid ht
  have HC := Lib.hid hC
  have IH := Lib.hid ih
  clear hl hS hC ih
  go_enter Tryz.func99, Tryz.ntmps99
  obtain ⟨cs, pp, cap, b, has, hb, hcs⟩ := as_comp ht
  have HBv := Lib.hid hb
  clear hb
  have HCs := Lib.hid hcs
  obtain ⟨T, x, rfl⟩ := ht.iface
  clear hcs ht
  go_upto_if 23 with ((with_reducible refine HR.out.mono ?_); clear HR; rintro e w1 ⟨v, rfl, ho, hE⟩; have HO := Lib.hid ho; have HE := Lib.hid hE; clear ho hE)
  go_cut [5] (fun v wc => OwnT w.heap.size (fun b => S b ∨ w.heap.size ≤ b) wc v (nexts ls t) ∧ Ext w wc)
  case first =>
    cases b with
    | false =>
      have hv : t.isV = true := by have h := HBv.out; cases h' : t.isV <;> simp [h'] at h ⊢
      have hnx : nexts ls t = rootT ls t := by cases t <;> first | rfl | (simp [Tm.isV] at hv)
      have HNx := Lib.hid hnx
      clear hv hnx
      go_wp2_with fail
      go_meet
      exact ⟨by rw [HNx.out]; exact HO.out.ext (Ext.new _ _), HE.out.trans (Ext.new _ _)⟩
    | true =>
      have hv : t.isV = false := by have h := HBv.out; cases h' : t.isV <;> simp [h'] at h ⊢
      obtain ⟨rfl, hx⟩ := HCs.out hv
      obtain ⟨pp', cap', xs, hx', hp0, hp1, hp2, hall⟩ := HT.out.split hv
      have HV := Lib.hid hv
      clear hv
      have hst : NSt S w w1.heap.size t.sym (.slice pp t.kids.length cap) v (nextD ls t 0) (w1.alloc (.cells #[.int .u8 t.sym, .slice pp t.kids.length cap] 149)) := by
        refine ⟨by rw [nextD_zero]; exact HO.out.ext (Ext.new _ _), HE.out.trans (Ext.new _ _), Bx.new _ _ _, HE.out.size, fun e => ?_⟩
        have := HO.out.lt _ e.symm
        omega
      have HSt := Lib.hid hst
      clear hst
      obtain ⟨rfl, rfl⟩ : pp = pp' ∧ cap = cap' := by have h := hx.symm.trans hx'; simpa [tC] using h
      have HAll := Lib.hid hall
      have HP1 := Lib.hid hp1
      clear hx hx' hp0 hp1 hall
      go_wp2_with fail
      go_loopg [5, 27] t.kids.length (fun k v i wr => ∃ d, d + k = t.kids.length ∧ i = .int .i64 d ∧ NSt S w w1.heap.size t.sym (.slice pp t.kids.length cap) v (nextD ls t d) wr)
      case atStart => exact ⟨0, by simp, rfl, HSt.out⟩
      case round =>
        obtain ⟨d, hd, rfl, hst⟩ := hrel
        obtain ⟨w0, rfl⟩ : ∃ w0 : World, w0 = wr := ⟨_, rfl⟩
        obtain ⟨gk0, rfl⟩ : ∃ k : Nat, k = gk := ⟨_, rfl⟩
        have HS0 := Lib.hid hst
        clear hst
        cases gk0 with
        | zero =>
          obtain rfl : d = t.kids.length := by omega
          go_wp2_with fail
          go_meet
          exact ⟨by rw [← nextD_all]; exact HS0.out.1, HS0.out.2.1⟩
        | succ m =>
          have hdl : d < t.kids.length := by omega
          have hdl' : (d : Int) < (t.kids.length : Int) := by omega
          have hk2 := t.kids_le
          have hd2 : (d : Int) + 1 ≤ 2 := by omega
          obtain ⟨kd, hkd⟩ : ∃ q, t.kids[d]? = some q := ⟨_, List.getElem?_eq_getElem hdl⟩
          obtain ⟨a, rfl⟩ : ∃ a, pp = some a := Option.ne_none_iff_exists'.1 (hp2 (fun e => by rw [e] at hdl; simp at hdl))
          obtain ⟨a, o, sp⟩ := a
          obtain ⟨hsp, hSa, hcell⟩ := HP1.out _ rfl
          obtain rfl : sp = none := hsp
          obtain ⟨y, hy, hky⟩ := HAll.out.get d kd hkd
          have hE0 := HS0.out.2.1
          have hc0 := hE0.cell (hcell d y hy)
          have HCall := Lib.hid (IH.out kd (List.mem_of_getElem? hkd) y w0 hE0 (hky.ext hE0))
          obtain ⟨U, y, rfl⟩ := hky.iface
          have HKd := Lib.hid hkd
          have HKdS := Lib.hid hdl
          have HCell := Lib.hid hcell
          clear hkd hcell hy hky hE0
          go_wp2_with ((with_reducible refine HCall.out.mono ?_); clear HCall; rintro e w2 (⟨hsm, v2, rfl, ho2, hE2⟩ | ⟨hbig, rfl, hE2⟩); rotate_left; exact ⟨rfl, .inr ⟨kid_big HKd.out (HKdS.out) hbig, rfl, HS0.out.2.1.trans hE2⟩⟩; obtain ⟨p2, c2, rfl⟩ := ho2.slice; have HO2 := Lib.hid ho2; have HE2 := Lib.hid hE2; have HSm := Lib.hid hsm; clear ho2 hE2 hsm)
          obtain ⟨g, ys, hp2', hres⟩ := NRes.start HS.out HS0.out HO2.out HE2.out
          have HRes := Lib.hid hres
          have hlenkd : (nexts ls kd).length ≤ 100000 := by
            have h1 := nexts_length ls kd
            have h2 := kid_size HKd.out
            have h3 : ls.length * kd.size ≤ 1000 * 60 := Nat.mul_le_mul hn (by omega)
            omega
          have HSt2 := Lib.hid (HS0.out.ext HE2.out)
          clear hres
          go_loopg [5, 36] (nexts ls kd).length (fun k v i wr => ∃ j, j + k = (nexts ls kd).length ∧ i = .int .i64 j ∧ NSt S w w1.heap.size t.sym (.slice (some ⟨a, o, none⟩) t.kids.length cap) v (nextD ls t d ++ ((nexts ls kd).take j).map (t.put d)) wr ∧ NRes S w v g ys (nexts ls kd) wr)
          case atStart => exact ⟨0, by simp, rfl, by simpa using HSt2.out, HRes.out⟩
          case round =>
            obtain ⟨j, hj, rfl, hst, hres⟩ := hrel
            have hjb : (j : Int) + 1 ≤ 100001 := by have h := hlenkd; omega
            have HStj := Lib.hid hst
            have HResj := Lib.hid hres
            clear hst hres
            cases gk with
            | zero =>
              obtain rfl : j = (nexts ls kd).length := by omega
              go_wp2_with fail
              go_roundg m
              case measure => omega
              case rel =>
                refine ⟨d + 1, by omega, congrArg (Value.int .i64) (by omega), ?_⟩
                have h := HStj.out
                rw [List.take_length, ← nextD_succ HKd.out] at h
                exact h
            | succ q =>
              have hjl : j < (nexts ls kd).length := by omega
              have hjl' : (j : Int) < ((nexts ls kd).length : Int) := by omega
              obtain ⟨r, hr⟩ : ∃ r, (nexts ls kd)[j]? = some r := ⟨_, List.getElem?_eq_getElem hjl⟩
              obtain ⟨rfl, hcap2⟩ := hp2' (fun e => by rw [e] at hjl; simp at hjl)
              obtain ⟨z, hz, hrz⟩ := HResj.out.2.2.get j r hr
              have hz' := HResj.out.1 j z hz
              obtain ⟨Z, z, rfl⟩ := hrz.iface
              have HRz := Lib.hid hrz
              have HR := Lib.hid hr
              have hbx := HStj.out.2.2.1
              have b0 := hbx.at 0 (y := .int .u8 t.sym) rfl
              have b1 := hbx.at 1 (y := .slice (some ⟨a, o, none⟩) t.kids.length cap) rfl
              have hBlt := hbx.lt
              clear hr hz hrz hbx
              have HCl := Lib.hid (fun W (he : Ext wr W) => clone_kids a o cap t.kids.length xs W (by omega) HAll.out.length (by omega) HAll.out.one fun j u hj => (HStj.out.2.1.trans he).cell (HCell.out j u hj))
              go_wp2_with fail
              go_cut [12] (fun v wc => ∃ (g5 cap5 : Nat) (cur : Array Value) (B5 : Nat), v = .pointer (some ⟨B5, 0, none⟩) ∧ Bx wc B5 #[.int .u8 t.sym, .slice (some ⟨g5, 0, none⟩) t.kids.length cap5] 149 ∧ wr.heap.size ≤ B5 ∧ wr.heap.size ≤ g5 ∧ g5 ≠ B5 ∧ t.kids.length ≤ cap5 ∧ Bx wc g5 cur 99 ∧ (∀ (j : Nat) (u : Value), xs[j]? = some u → cur[j]? = some u) ∧ Ext wr wc)
              case first =>
                go_wp2_with fail
                go_region_law (first
                  | (go_simp; go_at_call 126; (with_reducible refine (HCl.out wr.drew (Ext.refl wr).drew).mono ?_); rintro e w5 ⟨g5, cap5, cur, rfl, hg5, hg5', hcap5, hbx5, hcur5, hE5⟩; have HBx5 := Lib.hid hbx5; have HCur := Lib.hid hcur5; have HE5 : Hid (Ext wr w5) := Lib.hid hE5.undrew; have b0' := HE5.out.cell b0; have hBlt5 : w1.heap.size < w5.heap.size := Nat.lt_of_lt_of_le hBlt HE5.out.size; have b1' := HE5.out.cell b1; clear hbx5 hcur5 hE5)
                  | (go_simp; go_at_call 126; (with_reducible refine (HCl.out (wr.alloc (.cells #[.int .u8 0, .slice none 0 0] 149)).drew (Ext.new wr _).drew).mono ?_); rintro e w5 ⟨g5, cap5, cur, rfl, hg5, hg5', hcap5, hbx5, hcur5, hE5⟩; have HBx5 := Lib.hid hbx5; have HCur := Lib.hid hcur5; have HE5 : Hid (Ext wr w5) := Lib.hid (Ext.trans (Ext.new wr _).drew hE5); have b0' := HE5.out.cell b0; have hBlt5 : w1.heap.size < w5.heap.size := Nat.lt_of_lt_of_le hBlt HE5.out.size; have b1' := HE5.out.cell b1; have hbB : Bx w5 wr.heap.size #[.int .u8 0, .slice none 0 0] 149 := Bx.ext (Bx.new wr #[.int .u8 0, .slice none 0 0] 149).drew hE5; have k0 := hbB.at 0 (y := .int .u8 0) rfl; have k1 := hbB.at 1 (y := .slice none 0 0) rfl; have kf := hbB.free; have HBB := Lib.hid hbB; clear hbx5 hcur5 hE5 hbB))
                all_goals
                  go_wp2_with fail
                  go_meet
                  first
                    | exact ⟨g5, cap5, cur, w5.heap.size, rfl, Bx.new w5 _ _, HE5.out.size, hg5, Nat.ne_of_lt hg5', hcap5, HBx5.out.alloc _, HCur.out, HE5.out.trans (Ext.new _ _)⟩
                    | exact clone_there hg5 hcap5 HBB.out HBx5.out HCur.out HE5.out
              case rest =>
                obtain ⟨g5, cap5, cur, B5, rfl, hbB, hB5, hg5, hne, hcap5, hbg, hcur, hE5⟩ := hcut
                have hlen := HAll.out.length
                obtain ⟨yd, hyd⟩ : ∃ yd, xs[d]? = some yd := ⟨_, List.getElem?_eq_getElem (by omega)⟩
                have k0 := hbB.at 0 (y := .int .u8 t.sym) rfl
                have k1 := hbB.at 1 (y := .slice (some ⟨g5, 0, none⟩) t.kids.length cap5) rfl
                have kd0 := hbg.at d (hcur d yd hyd)
                have kf := hbg.free d
                have hbB' := hbB.other (p := ⟨g5, d, none⟩) (Ne.symm hne) (.iface Z z)
                obtain ⟨w7, hw7⟩ : ∃ w7, wc.setCell ⟨g5, d, none⟩ (.iface Z z) = w7 := ⟨_, rfl⟩
                rw [hw7] at hbB'
                have HW7 := Lib.hid hw7
                clear hw7
                have k0' := hbB'.at 0 (y := .int .u8 t.sym) rfl
                have k1' := hbB'.at 1 (y := .slice (some ⟨g5, 0, none⟩) t.kids.length cap5) rfl
                have HbB := Lib.hid hbB
                have Hbg := Lib.hid hbg
                have HCur := Lib.hid hcur
                have HE5 := Lib.hid hE5
                have HYd := Lib.hid hyd
                have HNe := Lib.hid hne
                clear hne hp2' hp2 hcap2
                clear hbB hbB' hbg hcur hE5 hyd hlen
                have he7 : Ext wr w7 := HW7.out ▸ HE5.out.grown (grown_set wc ⟨g5, d, none⟩ _) (some_le hg5)
                have hbg7 : Bx w7 g5 (cur.setIfInBounds d (.iface Z z)) 99 := HW7.out ▸ Hbg.out.set d _
                have HE7 := Lib.hid he7
                have Hbg7 := Lib.hid hbg7
                have hst7 := HStj.out.ext he7
                have HSt7 := Lib.hid hst7
                have HRes7 := Lib.hid (HResj.out.ext he7)
                obtain ⟨⟨xs7, hown7, hat7⟩, -⟩ := hst7
                have HOwn7 := Lib.hid hown7
                have HAt7 := Lib.hid hat7
                have hb7 : w.heap.size ≤ w7.heap.size := HSt7.out.2.1.size
                have hnl : (nextD ls t d ++ ((nexts ls kd).take j).map (t.put d)).length ≤ 1000000000 := by
                  have h1 := nexts_length ls t
                  have h2 : ls.length * t.size ≤ 1000 * 60 := Nat.mul_le_mul hn hts
                  have h3 := (nextD_prefix ls t (d := d + 1) HKdS.out).length_le
                  rw [nextD_succ HKd.out] at h3
                  simp only [List.length_append, List.length_map, List.length_take] at h3 ⊢
                  omega
                clear he7 hbg7 hown7 hat7
                iterate 40 (first | (rw [HW7.out]; clear HW7) | (have _ := HW7; go_step) | skip)
                go_wp2_with ((refine push_term w.heap.size u5 (nextD ls t d ++ ((nexts ls kd).take j).map (t.put d)).length xs7 (tC t.sym (.slice (some ⟨g5, 0, none⟩) t.kids.length cap5)) (by rfl) HOwn7.out (by rfl) rfl hnl hb7 ?_); rintro v9 w9 ⟨h71, h72, g9, cap9, rfl, hgl, hgs⟩; have HP : Hid (Pushed w7 w.heap.size 99 u5 (nextD ls t d ++ ((nexts ls kd).take j).map (t.put d)).length xs7 (tC t.sym (.slice (some ⟨g5, 0, none⟩) t.kids.length cap5)) (.slice (some ⟨g9, 0, none⟩) ((nextD ls t d ++ ((nexts ls kd).take j).map (t.put d)).length + 1) cap9) w9) := Lib.hid ⟨h71, h72, g9, cap9, rfl, hgl, hgs⟩; clear h71 h72 hgl hgs)
                go_roundg q
                case measure => omega
                case rel =>
                  have hlt := HStj.out.1.lt
                  have hsz := HStj.out.2.1.size
                  have hnew : IsT (fun b => (S b ∨ w.heap.size ≤ b) ∧ some b ≠ u5.ownBlock) w7 (t.put d r) (tC t.sym (.slice (some ⟨g5, 0, none⟩) t.kids.length cap5)) := by
                    have hk : AllT (fun b => (S b ∨ w.heap.size ≤ b) ∧ some b ≠ u5.ownBlock) w7 t.kids xs := AllT.ext HSt7.out.2.1 (HAll.out.mono fun b hb => ⟨.inl hb, fun e => by have h1 := hlt b e.symm; have h2 := HS.out b hb; omega⟩)
                    refine IsT.made HKd.out hk (HRz.out.ext HE7.out) ⟨.inr (by omega), fun e => by have h1 := hlt g5 e.symm; omega⟩ ?_
                    intro i u hi
                    rw [Hbg7.out.cell]
                    rw [List.getElem?_set] at hi
                    by_cases hdi : d = i
                    · subst hdi
                      have hds : d < cur.size := (Array.getElem?_eq_some_iff.1 (HCur.out d yd HYd.out)).1
                      rw [if_pos rfl] at hi
                      split at hi
                      · rw [Array.getElem?_setIfInBounds_self_of_lt hds]; exact hi
                      · cases hi
                    · rw [if_neg hdi] at hi
                      rw [Array.getElem?_setIfInBounds_ne hdi]
                      exact HCur.out i u hi
                  obtain ⟨h1, h2⟩ := NSt.push HSt7.out HRes7.out HAt7.out hnew HP.out
                  refine ⟨j + 1, ?_, congrArg (Value.int .i64) (?_), ?_, h2⟩
                  · omega
                  · omega
                  · have e : nextD ls t d ++ ((nexts ls kd).take (j + 1)).map (t.put d) = nextD ls t d ++ ((nexts ls kd).take j).map (t.put d) ++ [t.put d r] := by
                      rw [List.take_add_one, HR.out, List.map_append, ← List.append_assoc]; rfl
                    have el : (nextD ls t d ++ ((nexts ls kd).take j).map (t.put d)).length = (nextD ls t d).length + min j (nexts ls kd).length := by
                      rw [List.length_append, List.length_map, List.length_take]
                    rw [el] at h1
                    rw [e]
                    exact h1
  case rest =>
    obtain ⟨hown, hE⟩ := hcut
    obtain ⟨pv, cv, rfl⟩ := hown.slice
    have HOw := Lib.hid hown
    have HEc := Lib.hid hE
    have hrd := hown.read
    have HRd := Lib.hid hrd
    have hlen : (nexts ls t).length ≤ 100000 := by
      have h1 := nexts_length ls t
      have h2 : ls.length * t.size ≤ 1000 * 60 := Nat.mul_le_mul hn hts
      omega
    clear hown hE hrd has
    go_wp2_with fail
    go_loopg [60] (nexts ls t).length (fun k i wr => ∃ j, j + k = (nexts ls t).length ∧ i = .int .i64 j ∧ Ext wc wr ∧ ∀ u ∈ (nexts ls t).take j, u.size ≤ 60)
    case atStart => exact ⟨0, by simp, rfl, Ext.refl _, fun u hu => by simp at hu⟩
    case round =>
      obtain ⟨j, hj, rfl, hE, hsm⟩ := hrel
      have HE2 := Lib.hid hE
      have HSm := Lib.hid hsm
      clear hE hsm
      cases gk with
      | zero =>
        obtain rfl : j = (nexts ls t).length := by omega
        go_wp2_with fail
        go_ret
        have h := HSm.out
        rw [List.take_length] at h
        exact .inl ⟨h, _, rfl, HOw.out.ext HE2.out, HEc.out.trans HE2.out⟩
      | succ k =>
        have hjl : j < (nexts ls t).length := by omega
        have hjl' : (j : Int) < ((nexts ls t).length : Int) := by omega
        have hjb : (j : Int) + 1 ≤ 100001 := by omega
        obtain ⟨r, hr⟩ : ∃ r, (nexts ls t)[j]? = some r := ⟨_, List.getElem?_eq_getElem hjl⟩
        have hrs : r.size ≤ 100000 := by
          have h := nexts_size HC.out t r (List.mem_of_getElem? hr)
          omega
        rcases HRd.out with ⟨h0, -⟩ | ⟨g, o, cap', xs, hv, hgl, hcell, hall⟩
        · rw [h0] at hjl; simp at hjl
        · cases hv
          obtain ⟨z, hz, hrz⟩ := hall.get j r hr
          have hz' := HE2.out.cell (hcell j z hz)
          have HSz := Lib.hid (size_inv r z wr hrs (hrz.ext HE2.out))
          obtain ⟨Z, z, rfl⟩ := hrz.iface
          have HR := Lib.hid hr
          clear hr hz hrz hcell hall
          by_cases h60 : r.size ≤ 60
          · have hd1 : (decide ((r.size : Int) ≤ 60)) = true := decide_eq_true (by omega)
            go_wp2_with (first
              | ((with_reducible refine (demand_yes _ _).mono ?_); rintro e w4 ⟨rfl, rfl⟩)
              | (refine wpList_invoke0 (.iface Z z) rfl ?_; intro K hK; refine (HSz.out _ (Ext.refl _)).mono ?_; clear HSz; rintro e w4 ⟨rfl, hE4⟩; have HE4 := Lib.hid hE4; clear hE4))
            go_roundg k
            case measure => omega
            case rel =>
              refine ⟨j + 1, by omega, congrArg (Value.int .i64) (by omega), HE2.out.trans HE4.out, fun u hu => ?_⟩
              rw [List.take_add_one, HR.out] at hu
              rcases List.mem_append.1 hu with hu | hu
              · exact HSm.out u hu
              · simp at hu; subst hu; exact h60
          · have hd1 : (decide ((r.size : Int) ≤ 60)) = false := decide_eq_false (by omega)
            go_wp2_with (first
              | ((with_reducible refine (demand_no _ _).mono ?_); rintro e w4 ⟨rfl, rfl⟩)
              | (refine wpList_invoke0 (.iface Z z) rfl ?_; intro K hK; refine (HSz.out _ (Ext.refl _)).mono ?_; clear HSz; rintro e w4 ⟨rfl, hE4⟩; have HE4 := Lib.hid hE4; clear hE4))
            exact ⟨rfl, .inr ⟨⟨r, List.mem_of_getElem? HR.out, by omega⟩, rfl, HEc.out.trans (HE2.out.trans HE4.out)⟩⟩

/-- 'next': all next terms of a term, or the report that one is too large. -/
theorem nextT_any {S : Nat → Prop} (ls : List (Tm × Tm)) (hn : ls.length ≤ 1000) (hC : ∀ l ∈ ls, l.2.size ≤ 12) : ∀ (t : Tm) (lv x : Value) (w : World), t.size ≤ 60 → (∀ b, S b → b < w.heap.size) → IsLaws S w lv ls → IsT S w t x →
    Calls Tryz.prog 99 #[lv, x] w (NextsOf S ls t w) := by
  intro t
  induction t with
  | v i => exact fun lv x w hts hS hl ht => next_step ls hn hC _ lv x w hts hS hl ht fun k hk => by simp [Tm.kids] at hk
  | k b => exact fun lv x w hts hS hl ht => next_step ls hn hC _ lv x w hts hS hl ht fun k hk => by simp [Tm.kids] at hk
  | u b t ih =>
    intro lv x w hts hS hl ht
    refine next_step ls hn hC _ lv x w hts hS hl ht fun k hk y w' he hy => ?_
    simp only [Tm.size] at hts
    simp only [Tm.kids, List.mem_singleton] at hk
    subst hk
    exact ih lv y w' (by omega) (fun b hb => Nat.lt_of_lt_of_le (hS b hb) he.size) (hl.ext he) hy
  | p b s t ihs iht =>
    intro lv x w hts hS hl ht
    refine next_step ls hn hC _ lv x w hts hS hl ht fun k hk y w' he hy => ?_
    simp only [Tm.size] at hts
    simp only [Tm.kids, List.mem_cons, List.not_mem_nil, or_false] at hk
    rcases hk with rfl | rfl
    · exact ihs lv y w' (by omega) (fun b hb => Nat.lt_of_lt_of_le (hS b hb) he.size) (hl.ext he) hy
    · exact iht lv y w' (by omega) (fun b hb => Nat.lt_of_lt_of_le (hS b hb) he.size) (hl.ext he) hy

end Go.Proofs.YtholmlkjcobkdaaGreat
