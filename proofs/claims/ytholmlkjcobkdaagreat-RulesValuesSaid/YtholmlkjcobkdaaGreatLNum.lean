/- The law's 'numbers': a copy of a list of lists, cut. -/
import Derived.Test.YtholmlkjcobkdaaGreatLShort
import Derived.Laws.AppendOwnNone
import Derived.StillTailTactics
namespace Go.Proofs.YtholmlkjcobkdaaGreat
set_option linter.all false
set_option linter.unusedSimpArgs false
set_option linter.unusedVariables false
open Go.RowKit
set_option maxRecDepth 100000

/-- A list of numbers whose cells lie in S. -/
def RowS (S : Nat → Prop) (w : World) (x : Value) (r : List Int) : Prop := ∃ p cap, x = .slice p r.length cap ∧ r.length ≤ cap ∧ ∀ j n, r[j]? = some n → ∃ a o, p = some ⟨a, o, none⟩ ∧ S a ∧ w.cell? ⟨a, o + j, none⟩ = some (.int .i64 n)

theorem RowS.keep {S S' : Nat → Prop} {w w' : World} {x : Value} {r : List Int} (h : ∀ a o y, S a → w.cell? ⟨a, o, none⟩ = some y → w'.cell? ⟨a, o, none⟩ = some y ∧ S' a) (hr : RowS S w x r) : RowS S' w' x r := by
  obtain ⟨p, cap, h1, h2, h3⟩ := hr
  refine ⟨p, cap, h1, h2, fun j n hj => ?_⟩
  obtain ⟨a, o, ha, hs, hc⟩ := h3 j n hj
  exact ⟨a, o, ha, (h _ _ _ hs hc).2, (h _ _ _ hs hc).1⟩

theorem RowS.row {S : Nat → Prop} {w : World} {x : Value} {r : List Int} (h : RowS S w x r) : IsRow w x r := by
  obtain ⟨p, cap, h1, h2, h3⟩ := h
  refine ⟨p, cap, h1, h2, fun j n hj => ?_⟩
  obtain ⟨a, o, ha, -, hc⟩ := h3 j n hj
  exact ⟨a, o, ha, hc⟩

def AllR (S : Nat → Prop) (w : World) : List (List Int) → List Value → Prop
  | [], [] => True
  | t :: ts, x :: xs => RowS S w x t ∧ AllR S w ts xs
  | _, _ => False

theorem AllR.length {S : Nat → Prop} {w : World} : ∀ {ts : List (List Int)} {xs : List Value}, AllR S w ts xs → ts.length = xs.length
  | [], [], _ => rfl
  | _ :: _, _ :: _, h => by simp [AllR.length h.2]
theorem AllR.keep {S S' : Nat → Prop} {w w' : World} (h : ∀ a o y, S a → w.cell? ⟨a, o, none⟩ = some y → w'.cell? ⟨a, o, none⟩ = some y ∧ S' a) : ∀ {ts : List (List Int)} {xs : List Value}, AllR S w ts xs → AllR S' w' ts xs
  | [], [], _ => trivial
  | _ :: _, _ :: _, hx => ⟨hx.1.keep h, AllR.keep h hx.2⟩
theorem AllR.snoc {S : Nat → Prop} {w : World} {t : List Int} {x : Value} (ht : RowS S w x t) : ∀ {ts : List (List Int)} {xs : List Value}, AllR S w ts xs → AllR S w (ts ++ [t]) (xs ++ [x])
  | [], [], _ => ⟨ht, trivial⟩
  | _ :: _, _ :: _, h => ⟨h.1, AllR.snoc ht h.2⟩
theorem AllR.get {S : Nat → Prop} {w : World} : ∀ {ts : List (List Int)} {xs : List Value}, AllR S w ts xs → ∀ (k : Nat) (t : List Int), ts[k]? = some t → ∃ x, xs[k]? = some x ∧ RowS S w x t
  | [], [], _, _, _, h => by simp at h
  | t :: ts, x :: xs, h, 0, u, hu => by simp at hu; subst hu; exact ⟨x, rfl, h.1⟩
  | t :: ts, x :: xs, h, k + 1, u, hu => by simp at hu; simpa using AllR.get h.2 k u hu

/-- The call owns the list of lists; its rows lie apart from its block. -/
def OwnR (base : Nat) (w : World) (v : Value) (ts : List (List Int)) : Prop := ∃ xs, w.ownsRow base 43 1 v ts.length xs ∧ AllR (fun b => b < w.heap.size ∧ some b ≠ v.ownBlock) w ts xs

theorem OwnR.rd {base : Nat} {w : World} {v : Value} {ts : List (List Int)} (h : OwnR base w v ts) : IsRd w v ts := by
  obtain ⟨xs, h1, h2⟩ := h
  by_cases hn : 0 < ts.length
  · obtain ⟨g, cap, rfl, hb, hlt, hc, hcell, -⟩ := owns_form h1 hn
    refine ⟨_, cap, rfl, hc, fun j r hj => ?_⟩
    obtain ⟨x, hx, hr⟩ := h2.get j r hj
    exact ⟨g, 0, x, rfl, by rw [Nat.zero_add]; exact hcell j x hx, hr.row⟩
  · have h0 : ts = [] := List.length_eq_zero_iff.1 (by omega)
    subst h0
    obtain ⟨_, ⟨rfl, h0⟩ | ⟨g, cap, cur, rfl, -⟩⟩ := h1
    · exact ⟨none, 0, rfl, Nat.le_refl _, fun j s hj => by simp at hj⟩
    · exact ⟨_, cap, rfl, Nat.zero_le _, fun j s hj => by simp at hj⟩

/-- The list of lists as it comes in. -/
def ArgRd (w : World) (v : Value) (rd : List (List Int)) : Prop := ∃ p cap, v = .slice p rd.length cap ∧ rd.length ≤ cap ∧ rd.length ≤ 9223372036854775807 ∧ ∀ j r, rd[j]? = some r → ∃ a o q c, p = some ⟨a, o, none⟩ ∧ w.cell? ⟨a, o + j, none⟩ = some (.slice q r.length c) ∧ r.length ≤ c ∧ c ≤ 9223372036854775807 ∧ (q = none → c = 0) ∧
  ∀ i n, r[i]? = some n → ∃ b ob, q = some ⟨b, ob, none⟩ ∧ w.cell? ⟨b, ob + i, none⟩ = some (.int .i64 n)

theorem info_row : ∃ i, Tryz.prog.info? 43 = some i ∧ i.zero = some (.slice none 0 0) ∧ i.size = 1 ∧ i.bytes = 24 :=
  info_parts (by kernel_rfl : (Tryz.prog.info? 43).map (fun i => (i.zero, i.size, i.bytes)) = some (some (.slice none 0 0), 1, 24))

section
variable {ops : Array Oper} {Q : Exit → Act → World → Prop} {a : Act} {w : World} {rest : List Oper} {dst : Option Tmp} {type : TypeId} {pos : String} {after : Array Edge} {s x : Operand}

theorem push_row (base : Nat) (v : Value) (n : Nat) (xs : List Value) (u : Value) (hs : a.eval s = v) (hown : w.ownsRow base 43 1 v n xs)
    (hx : a.eval x = .slice (some ⟨w.heap.size, 0, none⟩) 1 1) (hu : u.oneCell' = true) (hn : n ≤ 1000000000) (hb : base ≤ w.heap.size)
    (h : ∀ v' w', Pushed w base 43 v n xs u v' w' → wpList Tryz.prog ops Q rest (a.put dst v') w') :
    wpList Tryz.prog ops Q ({ dst, op := .call { callee := .builtin .append, args := #[s, x], argTypes := #[22, 22] }, type, pos, after, guard := none } :: rest) a (w.alloc (.cells #[u] 43)) := by
  obtain ⟨i, h1, h2, h3, h4⟩ := info_row
  exact wpList_push 43 i _ 24 Tryz.underlying22 h1 h2 h3 h4 rfl (by decide) base v n xs _ hs hown hx hu hn hb h

/-- A list of numbers appended to nothing. -/
theorem wp_app_ints {o : Oper} {K : Act → World → Prop} (ho : o.op = .call { callee := .builtin .append, args := #[s, x], argTypes := #[43, 43] }) (q : Option Addr) (c k : Nat) (r : List Int) (hk : k = r.length) (hk4 : k ≤ 1000) (hq : q = none → c = 0)
    (hc : ∀ (i : Nat) (n : Int), r[i]? = some n → ∃ b ob, q = some ⟨b, ob, none⟩ ∧ w.cell? ⟨b, ob + i, none⟩ = some (.int .i64 n))
    (hs : a.eval s = .slice none 0 0) (hx : a.eval x = .slice q k c)
    (h : ∀ v' w', RowS (fun b => w.heap.size ≤ b ∧ b < w'.heap.size) w' v' r → Ext w w' → K (a.put o.dst v') w') : o.wp Tryz.prog a w K Q := by
  obtain ⟨i, h1, h2, h3, h4⟩ := info_int
  subst hk
  cases q with
  | none =>
    obtain rfl := hq rfl
    have hr : r = [] := by
      cases r with
      | nil => rfl
      | cons n r => obtain ⟨b, ob, e, -⟩ := hc 0 n rfl; cases e
    subst hr
    have hrun := run_append_owned_none (P := Tryz.prog) (w := w) w.heap.size 43 o.type 3 i 1 Tryz.underlying43 h1 (.slice none 0 0) 0 [] (World.ownsRow_nil _ _ _ _)
    unfold Oper.wp
    simp only [List.length_nil] at hx
    simp [execOp, ho, resolve, invoke, builtin, hs, hx, hrun, Result.andThen]
    exact h _ _ ⟨none, 0, rfl, Nat.le_refl _, fun j n hj => by simp at hj⟩ (Ext.refl _)
  | some ad =>
    refine wp_append_own w s x 43 ho w.heap.size 3 i (.int .i64 0) 1 8 Tryz.underlying43 h1 h2 h3 h4 rfl (by decide) (.slice none 0 0) 0 [] hs (World.ownsRow_nil _ _ _ _) ad r.length c (r.map (Value.int .i64)) hx (by simp) ?_ ?_ (by unfold maxLen; omega) (by omega) (Nat.le_refl _) ?_
    · intro j u hj
      rw [List.getElem?_map] at hj
      cases hr : r[j]? with
      | none => rw [hr] at hj; cases hj
      | some n =>
        rw [hr] at hj; cases hj
        obtain ⟨b, ob, e, hcell⟩ := hc j n hr
        cases e
        rw [Addr.add_lit]
        exact hcell
    · intro u hu
      obtain ⟨n, -, rfl⟩ := List.mem_map.1 hu
      rfl
    · intro v' w' ho hg hnil
      have hE : Ext w w' := (Ext.refl w).grown hg (fun k e => by cases e)
      rw [Nat.zero_add, List.nil_append] at ho
      refine h v' w' ?_ hE
      by_cases hn : 0 < r.length
      · obtain ⟨g, cap, rfl, hb, hlt, hcp, hcell, -⟩ := owns_form ho hn
        refine ⟨_, cap, rfl, hcp, fun j n hj => ⟨g, 0, rfl, ⟨hb, hlt⟩, ?_⟩⟩
        rw [Nat.zero_add]
        exact hcell j _ (by rw [List.getElem?_map, hj]; rfl)
      · have h0 : r = [] := List.length_eq_zero_iff.1 (by omega)
        subst h0
        obtain ⟨_, ⟨rfl, h0⟩ | ⟨g, cap, cur, rfl, -⟩⟩ := ho
        · exact ⟨none, 0, rfl, Nat.le_refl _, fun j s hj => by simp at hj⟩
        · exact ⟨_, cap, rfl, Nat.zero_le _, fun j s hj => by simp at hj⟩

theorem step_app_ints {K : Act → World → Prop} {E : Prop} (q : Option Addr) (c k : Nat) (r : List Int) (hk : k = r.length) (hk4 : k ≤ 1000) (hq : q = none → c = 0)
    (hc : ∀ (i : Nat) (n : Int), r[i]? = some n → ∃ b ob, q = some ⟨b, ob, none⟩ ∧ w.cell? ⟨b, ob + i, none⟩ = some (.int .i64 n))
    (hs : a.eval s = .slice none 0 0) (hx : a.eval x = .slice q k c)
    (h : ∀ v' w', RowS (fun b => w.heap.size ≤ b ∧ b < w'.heap.size) w' v' r → Ext w w' → K (a.put dst v') w') :
    if Region.wanted { dst, op := .call { callee := .builtin .append, args := #[s, x], argTypes := #[43, 43] }, type, pos, after, guard := none } (yielded ops a.tmps) = true
      then Oper.wp Tryz.prog { dst, op := .call { callee := .builtin .append, args := #[s, x], argTypes := #[43, 43] }, type, pos, after, guard := none } a w K Q else E := by
  rw [if_pos (by simp [Region.wanted])]
  exact wp_app_ints rfl q c k r hk hk4 hq hc hs hx h

theorem step_push_row {K : Act → World → Prop} {E : Prop} (base : Nat) (v : Value) (n : Nat) (xs : List Value) (u : Value) (hs : a.eval s = v) (hown : w.ownsRow base 43 1 v n xs)
    (hx : a.eval x = .slice (some ⟨w.heap.size, 0, none⟩) 1 1) (hu : u.oneCell' = true) (hn : n ≤ 1000000000) (hb : base ≤ w.heap.size)
    (h : ∀ v' w', Pushed w base 43 v n xs u v' w' → K (a.put dst v') w') :
    if Region.wanted { dst, op := .call { callee := .builtin .append, args := #[s, x], argTypes := #[22, 22] }, type, pos, after, guard := none } (yielded ops a.tmps) = true
      then Oper.wp Tryz.prog { dst, op := .call { callee := .builtin .append, args := #[s, x], argTypes := #[22, 22] }, type, pos, after, guard := none } a (w.alloc (.cells #[u] 43)) K Q else E := by
  obtain ⟨i, h1, h2, h3, h4⟩ := info_row
  exact step_push 43 i _ 24 Tryz.underlying22 h1 h2 h3 h4 rfl (by decide) base v n xs _ hs hown hx hu hn hb h
end

theorem slice_head (q : Option Addr) (n c : Nat) (k : Nat) (hk : k ≤ n) (hn : n ≤ c) : ∀ W : World, (Instr.sliceAt 43 (.slice q n c) none (some (.int .i64 (k : Int))) none).run Tryz.prog W = .ok (.slice q k c) W := by
  have hz : ∀ W, (sizeOf (Tryz.prog.elem 43)).run Tryz.prog W = .ok 1 W := fun W => by kernel_rfl
  intro W
  rw [run_sliceAt_slice W _ _ _ _ _ (by kernel_rfl), run_slice_h W _ _ _ _ (by kernel_rfl) _ _ (by omega) (by omega), hz]
  simp only [Result.andThen, sliced]
  cases q with
  | none => simp
  | some ad => simp [Addr.add]

theorem take_map {rd : List (List Int)} {d : Nat} {r : List Int} (h : rd[d]? = some r) : (rd.take (d + 1)).map (List.take 4) = (rd.take d).map (List.take 4) ++ [r.take 4] := by
  rw [List.take_add_one, h, List.map_append]; rfl

theorem own_push {base d : Nat} {wr w5 w7 : World} {v x v7 : Value} {ts : List (List Int)} {t : List Int} {xs : List Value} (h1 : wr.ownsRow base 43 1 v d xs) (h2 : AllR (fun b => b < wr.heap.size ∧ some b ≠ v.ownBlock) wr ts xs) (hd : ts.length = d)
    (h3 : ∀ k, v.ownBlock = some k → base ≤ k ∧ k < wr.heap.size) (hE : Ext wr w5) (hr : RowS (fun b => wr.drew.heap.size ≤ b ∧ b < w5.heap.size) w5 x t) (hp : Pushed w5 base 43 v d xs x v7 w7) : OwnR base w7 v7 (ts ++ [t]) := by
  obtain ⟨p1, p2, g, cap, rfl, hg, hlt⟩ := hp
  refine ⟨xs ++ [x], by simpa [hd] using p1, ?_⟩
  have hsz : wr.heap.size ≤ w5.heap.size := hE.size
  have hsz7 := p2.size
  have hap : ∀ b, b < w5.heap.size → some b ≠ v.ownBlock → some b ≠ (Value.slice (some ⟨g, 0, none⟩) (d + 1) cap).ownBlock := by
    intro b hb hn e
    simp only [Value.ownBlock, Option.some.injEq] at e
    subst e
    rcases hg with hg | hg
    · exact hn hg.symm
    · omega
  refine AllR.snoc (hr.keep fun a o y hs hc => ?_) (h2.keep fun a o y hs hc => ?_)
  · have hs' : wr.heap.size ≤ a ∧ a < w5.heap.size := hs
    have hn : some a ≠ v.ownBlock := fun e => by have := (h3 a e.symm).2; omega
    exact ⟨p2.cell (a := ⟨a, o, none⟩) hc hn, by omega, hap a hs'.2 hn⟩
  · exact ⟨p2.cell (a := ⟨a, o, none⟩) (hE.cell hc) hs.2, by omega, hap a (by omega) hs.2⟩

set_option maxHeartbeats 2000000 in
theorem numbers_any (rd : List (List Int)) (v : Value) (w : World) (hr : ArgRd w v rd) : Calls Tryz.prog 20 #[v] w fun e w' => ∃ v', e = .returned v' ∧ OwnR w.heap.size w' v' ((rd.take 7).map (List.take 4)) ∧ Ext w w' := by
  obtain ⟨p, cap, rfl, hcap, hmax, hc⟩ := hr
  have HC := Lib.hid hc
  clear hc
  go_enter Tryz.func20, Tryz.ntmps20
  go_wp2_with fail
  go_loopg [3, 4] (min rd.length 7) (fun k v i wr => ∃ d, d + k = min rd.length 7 ∧ i = .int .i64 d ∧ OwnR w.heap.size wr v ((rd.take d).map (List.take 4)) ∧ Ext w wr)
  case atStart => exact ⟨0, by simp, rfl, ⟨[], World.ownsRow_nil _ _ _ _, trivial⟩, Ext.refl _⟩
  case round =>
    obtain ⟨d, hd, rfl, hown, hE⟩ := hrel
    have HOwn := Lib.hid hown
    have HE := Lib.hid hE
    clear hown hE
    cases gk with
    | zero =>
      have hex : ¬ (d < rd.length ∧ d < 7) := by omega
      have htk : rd.take 7 = rd.take d := by
        by_cases h7 : 7 ≤ rd.length
        · congr 1; omega
        · rw [List.take_of_length_le (by omega), List.take_of_length_le (by omega)]
      have HTk := Lib.hid htk
      clear htk
      by_cases h1 : d < rd.length
      · have h2 : (7 : Int) ≤ (d : Int) := by omega
        have h1' : (d : Int) < (rd.length : Int) := by omega
        go_wp2_with fail
        go_ret
        exact ⟨_, rfl, by rw [HTk.out]; exact HOwn.out, HE.out⟩
      · have h1' : (rd.length : Int) ≤ (d : Int) := by omega
        go_wp2_with fail
        go_ret
        exact ⟨_, rfl, by rw [HTk.out]; exact HOwn.out, HE.out⟩
    | succ k =>
      have hdl : d < rd.length := by omega
      have hd7 : d < 7 := by omega
      have hdl' : (d : Int) < (rd.length : Int) := by omega
      have hd7' : (d : Int) < 7 := by omega
      have hd2 : (d : Int) + 1 ≤ 7 := by omega
      obtain ⟨r, hrr⟩ : ∃ r, rd[d]? = some r := ⟨_, List.getElem?_eq_getElem hdl⟩
      obtain ⟨a, o, q, c, rfl, hcell, hrc, hcm, hqn, hcc⟩ := HC.out d r hrr
      have hce := HE.out.cell hcell
      have hmn : ∃ K4 : Nat, min (r.length : Int) 4 = (K4 : Int) ∧ K4 = min r.length 4 := ⟨min r.length 4, by omega, rfl⟩
      obtain ⟨K4, hmn, hK4⟩ := hmn
      have hsl := slice_head q r.length c K4 (by omega) hrc
      have hlr : (r.take 4).length = K4 := by rw [List.length_take]; omega
      obtain ⟨xs, hown, hat⟩ := HOwn.out
      have hln : ((rd.take d).map (List.take 4)).length = d := by rw [List.length_map, List.length_take]; omega
      rw [hln] at hown
      have hln' := hln
      have HXs := Lib.hid hown
      have HAt := Lib.hid hat
      have hlt := World.ownsRow.lt hown
      have HLt := Lib.hid hlt
      have HRr := Lib.hid hrr
      have HLr := Lib.hid hlr
      have HQn := Lib.hid hqn
      have hcw : ∀ W, Ext wr W → ∀ (i : Nat) (n : Int), (r.take 4)[i]? = some n → ∃ b ob, q = some ⟨b, ob, none⟩ ∧ W.cell? ⟨b, ob + i, none⟩ = some (.int .i64 n) := by
        intro W he i n hi
        have hi4 : i < 4 := by
          by_cases h : i < 4
          · exact h
          · rw [List.getElem?_take, if_neg h] at hi; cases hi
        rw [List.getElem?_take, if_pos hi4] at hi
        obtain ⟨b, ob, e, hcl⟩ := hcc i n hi
        exact ⟨b, ob, e, he.cell (HE.out.cell hcl)⟩
      have HCw := Lib.hid hcw
      have hbw : w.heap.size ≤ wr.heap.size := HE.out.size
      have hK1 : K4 ≤ 1000 := by omega
      have hd1 : d ≤ 1000000000 := by omega
      clear hrr hcell hcc hown hat hlt hlr hqn hcw hK4 hln hcm
      have HLn := Lib.hid hln'
      clear hln'
      go_wp2_with fail
      go_region_law (first
        | (refine step_app_ints (w := wr.drew) q c K4 (r.take 4) HLr.out.symm hK1 HQn.out (HCw.out wr.drew (Ext.refl wr).drew) (by rfl) (by rfl) ?_; rintro v5 w5 hrow5 hE5; obtain ⟨p5, c5, rfl, -⟩ := id hrow5; rw [HLr.out] at hrow5 ⊢; have HRow5 := Lib.hid hrow5; have HE5 := Lib.hid hE5; have HXs5 := Lib.hid (owns_ext HXs.out ((Ext.refl wr).drew.trans hE5)); have hb5 : w.heap.size ≤ w5.heap.size := Nat.le_trans hbw hE5.size; clear hrow5 hE5)
        | (refine step_push_row (w := w5) w.heap.size u3 d xs (.slice p5 K4 c5) (by rfl) HXs5.out (by rfl) rfl hd1 hb5 ?_; rintro v7 w7 hp7; have HP7 := Lib.hid hp7; clear hp7))
      all_goals
        have hfin := own_push HXs.out HAt.out HLn.out HLt.out HE5.out.undrew HRow5.out HP7.out
        rw [← take_map HRr.out] at hfin
        have hE7 : Ext w w7 := (HE.out.trans HE5.out.undrew).grown HP7.out.2.1 (fun k e => (HLt.out k e).1)
        have HFin := Lib.hid hfin
        have HE7 := Lib.hid hE7
        clear hfin hE7
        go_wp2_with fail
        go_roundg k
        case measure => omega
        case rel => exact ⟨d + 1, by omega, congrArg (Value.int .i64) (by omega), HFin.out, HE7.out⟩

end Go.Proofs.YtholmlkjcobkdaaGreat
