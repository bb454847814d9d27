/- Terms as strings, each once, in ascending order. -/
import Derived.Test.YtholmlkjcobkdaaGreatIter
import Derived.Maps.OwnIn
import Derived.Maps.OwnSet
import Derived.Test.YtholmlkjcobkdaaGreatNext
namespace Go.Proofs.YtholmlkjcobkdaaGreat
set_option linter.all false
set_option linter.unusedSimpArgs false
set_option linter.unusedVariables false
open Go.RowKit Go.Maps Go.Sort
set_option maxRecDepth 100000

abbrev Str := List UInt8

def uniq : List Str → List Str
  | [] => []
  | x :: l => if x ∈ l then uniq l else x :: uniq l
theorem mem_uniq {x : Str} : ∀ {l : List Str}, x ∈ uniq l ↔ x ∈ l
  | [] => Iff.rfl
  | a :: l => by
    unfold uniq
    have ih := @mem_uniq x l
    split
    · rename_i h
      rw [ih, List.mem_cons]
      exact ⟨.inr, fun h' => h'.elim (fun e => e ▸ h) id⟩
    · rw [List.mem_cons, List.mem_cons, ih]
theorem uniq_nodup : ∀ l : List Str, (uniq l).Nodup
  | [] => List.nodup_nil
  | a :: l => by
    unfold uniq
    split
    · exact uniq_nodup l
    · rename_i h
      exact List.nodup_cons.2 ⟨fun h' => h (mem_uniq.1 h'), uniq_nodup l⟩
theorem uniq_length : ∀ l : List Str, (uniq l).length ≤ l.length
  | [] => Nat.le_refl _
  | a :: l => by
    have := uniq_length l
    unfold uniq
    split <;> simp <;> omega

/-- The strings, each once, in ascending order. -/
def asc (l : List Str) : List Str := (uniq l).mergeSort (fun x y => decide (x ≤ y))

theorem mem_asc {x : Str} {l : List Str} : x ∈ asc l ↔ x ∈ l := by rw [asc, List.mem_mergeSort]; exact mem_uniq
theorem asc_length (l : List Str) : (asc l).length ≤ l.length := by rw [asc, List.length_mergeSort]; exact uniq_length l

/-- What a map that was written so reads as. -/
def dat (l : List Str) : DataW Nat := (l.map Lit.string).foldl (fun m x => m.put x (.lit (.bool true))) (.map [])

theorem dat_snoc (l : List Str) (x : Str) : dat (l ++ [x]) = (dat l).put (.string x) (.lit (.bool true)) := by simp [dat]
theorem has_dat (l : List Str) (x : Str) : has (dat l) (.string x) = true ↔ x ∈ l := by
  unfold dat
  rw [has_fold _ _ _ _ tidy_empty.isMap (fun y hy => by obtain ⟨s, -, rfl⟩ := List.mem_map.1 hy; trivial)]
  simp only [Bool.or_eq_true, List.any_map, List.any_eq_true, Function.comp]
  constructor
  · rintro (h | ⟨y, hy, h⟩)
    · cases h
    · simp only [Lit.sameKey, beq_iff_eq] at h
      exact h ▸ hy
  · exact fun h => .inr ⟨x, h, by simp [Lit.sameKey]⟩

theorem asc_of_perm {l ss : List Str} {P : Program} {k : TypeId} {R : Value → Option (DataW Nat × List MemPlace)} {w : World} {b n : Nat} (hk : P.underlying k = some .string) (K : Maps.Keyed P k)
    (h : w.ownsMap P k R b n (dat l)) (hp : ss.Perm (strKeys (dat l))) : ss.mergeSort (fun x y => decide (x ≤ y)) = asc l := by
  obtain ⟨es, hD, hpw, -⟩ := h.entries K
  obtain ⟨es', hD', hks⟩ := h.keysOf
  rw [hD] at hD'
  cases hD'
  have h2 := perm_strKeys (H := Nat) hpw (fun p hp => by obtain ⟨v, hv⟩ := hks p hp; obtain ⟨x, -, e, -⟩ := Maps.keyOf_str hk hv; exact ⟨x, e⟩) (uniq_nodup l) (fun x => by rw [← hD, has_dat]; exact mem_uniq)
  rw [hD] at hp
  exact mergeSort_of_perm (hp.trans h2.symm)

theorem owns_base {w : World} {b b' : Nat} {e : TypeId} {s : Nat} {v : Value} {n : Nat} {xs : List Value} (h : w.ownsRow b e s v n xs) (hb : b' ≤ b) : w.ownsRow b' e s v n xs := by
  obtain ⟨h1, h2 | ⟨g, cap, cur, hv, hg, r⟩⟩ := h
  · exact ⟨h1, .inl h2⟩
  · exact ⟨h1, .inr ⟨g, cap, cur, hv, Nat.le_trans hb hg, r⟩⟩

/-- The call owns a slice of these strings. -/
def OwnS (base : Nat) (w : World) (v : Value) (l : List Str) : Prop := w.ownsRow base 9 1 v l.length (l.map encS)

/-- Strings that the call has made. -/
def MakesS (w : World) (l : List Str) (e : Ending) (w' : World) : Prop := ∃ v, e = .returned v ∧ OwnS w.heap.size w' v l ∧ Ext w w'

theorem IsTs.slice {S : Nat → Prop} {w : World} {v : Value} {ts : List Tm} (h : IsTs S w v ts) : ∃ p c, v = .slice p ts.length c := by
  rcases h with ⟨rfl, a, c, rfl⟩ | ⟨a, o, cap, xs, h1, -⟩
  · exact ⟨_, _, rfl⟩
  · exact ⟨_, _, h1⟩

set_option maxHeartbeats 2000000 in
theorem texts_any {S : Nat → Prop} (ts : List Tm) (v : Value) (w : World) (hn : ts.length ≤ 1000000) (hs : ∀ t ∈ ts, t.size ≤ 100000) (hv : IsTs S w v ts) :
    Calls Tryz.prog 98 #[v] w (MakesS w (asc (ts.map Tm.text))) := by
  obtain ⟨p, c, rfl⟩ := hv.slice
  have hmm := @run_makeMap Tryz.prog
  have HV := Lib.hid hv
  have HSz := Lib.hid hs
  clear hv hs
  go_enter Tryz.func98, Tryz.ntmps98
  go_wp2_with fail
  have hm0 := World.ownsMap_made (H := Nat) w Tryz.prog 9 (plainElem Tryz.prog 4)
  have HM0 := Lib.hid hm0
  clear hm0
  go_loopg [5, 9] ts.length (fun k x i wr => ∃ j, j + k = ts.length ∧ i = .int .i64 j ∧ wr.ownsMap Tryz.prog 9 (plainElem Tryz.prog 4) w.heap.size j (dat ((ts.take j).map Tm.text)) ∧ Ext w wr)
  case atStart => exact ⟨0, by simp, rfl, HM0.out, Ext.new _ _⟩
  case round =>
    obtain ⟨j, hj, rfl, hm, hE⟩ := hrel
    have HM := Lib.hid hm
    have HE := Lib.hid hE
    clear hm hE
    cases gk with
    | zero =>
      obtain rfl : j = ts.length := by omega
      have hm := HM.out
      rw [List.take_length] at hm
      have hsz := hm.size_le
      have HS1 := Lib.hid ((callsIn_wide (n := 5)).1 (Tryz.maps_Keys_133 (some w.heap.size) wr))
      have HS2 := Lib.hid ((callsIn_wide (n := 5)).1 (Tryz.slices_Sorted_keys_132_133 w.heap.size ts.length (dat (ts.map Tm.text)) _ wr hm (by unfold maxLen; omega) (by omega)))
      have HMm := Lib.hid hm
      clear hm
      go_wp2_with (first
        | ((with_reducible refine HS1.out.mono ?_); clear HS1; rintro e w4 ⟨rfl, rfl⟩)
        | ((with_reducible refine HS2.out.mono ?_); clear HS2; rintro e w5 ⟨v, ss, rfl, hp, ho, -, hb⟩; have HP := Lib.hid hp; have HO := Lib.hid ho; have HB := Lib.hid hb; clear hp ho hb))
      go_ret
      have e := asc_of_perm Tryz.underlying9 (Maps.string_keyed Tryz.underlying9) HMm.out HP.out
      have el : ss.length = (asc (ts.map Tm.text)).length := by rw [← e, List.length_mergeSort]
      have ho := HO.out
      rw [e, el] at ho
      exact ⟨v, rfl, owns_base ho (Nat.le_trans HE.out.size (by simp)), HE.out.trans ((Ext.new _ _).trans HB.out)⟩
    | succ k =>
      have hjl : j < ts.length := by omega
      have hjl' : (j : Int) < (ts.length : Int) := by omega
      have hjb : (j : Int) + 1 ≤ 1000001 := by omega
      obtain ⟨t, ht⟩ : ∃ t, ts[j]? = some t := ⟨_, List.getElem?_eq_getElem hjl⟩
      have hts := HSz.out t (List.mem_of_getElem? ht)
      rcases HV.out with ⟨h0, -⟩ | ⟨g, o, cap', xs, hv, hgl, hcell, hall⟩
      · rw [h0] at hjl; simp at hjl
      · cases hv
        obtain ⟨z, hz, hrz⟩ := hall.get j t ht
        have hz' := HE.out.cell (hcell j z hz)
        have HSx := Lib.hid (text_inv t z wr hts (hrz.ext HE.out))
        obtain ⟨Z, z, rfl⟩ := hrz.iface
        have HT := Lib.hid ht
        clear ht hz hrz hcell hall
        have hkey : keyOf Tryz.prog 9 (str t) = some (.string t.text) := by
          have h := WideMaps.keyOf_string_mk (P := Tryz.prog) Tryz.underlying9 (s := ⟨t.text.toArray⟩) (by
            have h1 := text_length t
            show t.text.toArray.size ≤ maxLen
            simp only [List.size_toArray, maxLen]; omega)
          simpa [str] using h
        have HKey := Lib.hid hkey
        have hmx : j < maxLen := by unfold maxLen; omega
        clear hkey
        go_wp2_with (first
          | (refine wpList_invoke0 (.iface Z z) rfl ?_; intro K hK; refine (HSx.out _ (Ext.refl _)).mono ?_; clear HSx; rintro e w4 ⟨rfl, hE4⟩; have HE4 := Lib.hid hE4; have HM4 := Lib.hid (HM.out.kept hE4.grows (by simp)); clear hE4)
          | (refine wpList_mapUpdate_own w4 rfl _ _ _ 141 rfl 9 4 (Maps.string_keyed Tryz.underlying9) Tryz.underlying141 _ w.heap.size j _ rfl HM4.out hmx _ _ _ rfl rfl HKey.out (.lit (.bool true)) [] (plainElem_bool Tryz.underlying4 true) ?_; intro w5 hown5 hgrow5; have HM5 := Lib.hid hown5; have HG5 := Lib.hid hgrow5; clear hown5 hgrow5))
        go_roundg k
        case measure => omega
        case rel =>
          refine ⟨j + 1, by omega, congrArg (Value.int .i64) (by omega), ?_, (HE.out.trans HE4.out).grown HG5.out (some_le (Nat.le_refl _))⟩
          have e : (ts.take (j + 1)).map Tm.text = (ts.take j).map Tm.text ++ [t.text] := by rw [List.take_add_one, HT.out, List.map_append]; rfl
          rw [e, dat_snoc]
          exact HM5.out

end Go.Proofs.YtholmlkjcobkdaaGreat
