/- Texts of one proof put together. The program's scheme.Right: right just where rightS says so. The library's IndexFunc and ContainsFunc at numbers and texts, for whatever predicate lays blocks only. The program's scheme.Groups: its closures, and the ways that end early. The map of a level: group name to the places of its codes; rows of places. The library's sort at a row of texts of the call's own: no text twice: it is the sorted list. The program's scheme.Groups: what its walk carries from round to round. -/
import Derived.Test.YtejmlkfdkodabaaDoorQxd
import Derived.Test.YtejmlkfdkodabaaDoorQxc
import Derived.Test.YtejmlkfdkodabaaDoorProg
import Derived.LoopN
import Derived.Shelf.Abstract
import Derived.Test.YtejmlkfdkodabaaDoorQxa
import Derived.Maps.OwnRows
import Derived.Maps.GroupsBeside
import Derived.Maps.RangeWalk
import Derived.Sort.KeysCollected
import Derived.Shelf.Lay
import Derived.Ground.NamesProg
import Derived.Shelf.Sort.Plain
import Derived.Shelf.Slices.In.SortNone
import Derived.Sort.OwnSorted
namespace Go.Proofs.YtejmlkfdkodabaaDoor
open Go.RowKit LB Go.Maps Go.Proofs.YtejmlkfdkodabaaDoorW.PrintWords

theorem alone_asc {l : Level} {last : Bool} (h : aloneS l last = true) : ascending l.labels = true := by
  obtain ⟨_, _, _, _, _, h1, h2⟩ := alone_gives h
  cases last with
  | true => rw [(h1 rfl).2.1]; rfl
  | false => exact (h2 rfl).2.1
/-- The map that counts names, as long as no name is there twice. -/
structure OnceD (names : List ByteArray) (D : DataW Unit) : Prop where
  map : IsMap D
  at_ : ∀ s, D.atKey (keyS s) (.lit (.int .i64 0)) = .lit (.int .i64 (if names.any (eqS s) then 1 else 0))
theorem OnceD.start : OnceD [] (.map []) := ⟨isMap_empty, fun _ => rfl⟩
theorem OnceD.push {names : List ByteArray} {D : DataW Unit} (h : OnceD names D) (s : ByteArray) : OnceD (names ++ [s]) (D.put (keyS s) (.lit (.int .i64 1))) := by
  refine ⟨h.map.put _ _, fun t => ?_⟩
  rw [List.any_append]
  by_cases e : t = s
  · subst e
    rw [atKey_put_same h.map (keyS_isKey _)]
    simp [eqS_refl]
  · rw [atKey_put_other (fun e' => e (keyS_inj e')), h.at_]
    simp [eqS_false.2 e]
theorem lit_int {a b : Int} (h : (DataW.lit (.int .i64 a) : DataW Unit) = .lit (.int .i64 b)) : a = b := by
  injection h with h
  injection h
theorem labelSum_append (a b : List Level) : labelSum (a ++ b) = labelSum a + labelSum b := by
  induction a with
  | nil => simp [labelSum]
  | cons x r ih => rw [List.cons_append, labelSum, labelSum, ih]; omega
theorem labelSum_mono (ls : List Level) (k : Nat) : labelSum (ls.take k) ≤ labelSum ls := by
  have h := labelSum_append (ls.take k) (ls.drop k)
  rw [List.take_append_drop] at h
  omega
set_option maxHeartbeats 4000000 in
set_option maxRecDepth 100000 in
theorem sright_any (ls : List Level) (A : Option Addr) (c : Nat) (w : World) (hC : Kd.C kLevel w A ls.length ls) (hf : LFit ls) :
    Calls Tryd.prog 27 #[.slice A ls.length c] w fun e w' => e = .returned (.bool (rightS ls)) ∧ Below w.heap.size w w' := by
  have hm := hf.many
  have HC := hid_ hC
  have HE := hid_ hf.each
  clear hC hf
  rcases (show ls.length < 1 ∨ 6 < ls.length ∨ (1 ≤ ls.length ∧ ls.length ≤ 6) from by omega) with h | h | ⟨h, h'⟩
  · have HX := hid_ (right_no (.inl h))
    go_enter Tryd.func27, Tryd.ntmps27
    go_wp2
    go_ret
    exact ⟨ret_bool HX.out.symm, Below.refl _ _⟩
  · have HX := hid_ (right_no (.inr (.inl h)))
    go_enter Tryd.func27, Tryd.ntmps27
    go_wp2
    go_ret
    exact ⟨ret_bool HX.out.symm, Below.refl _ _⟩
  · have hmm := @run_makeMap Tryd.prog
    go_enter Tryd.func27, Tryd.ntmps27
    go_wp2
    go_loopw [3, 19] (fun n i wr => ∃ k : Nat, k ≤ ls.length ∧ i = .int .i64 k ∧ n = .int .i64 (labelSum (ls.take k) : Nat) ∧ labelSum (ls.take k) ≤ 200 ∧ Hid (Below w.heap.size w wr) ∧ Hid (∃ D, wr.ownsMap Tryd.prog 9 (plainElem (H := Unit) Tryd.prog 3) w.heap.size k D ∧ OnceD ((ls.take k).map (·.name)) D)
        ∧ Hid (∀ i (h : i < ls.length), i < k → aloneS ls[i] (decide (i + 1 = ls.length)) = true ∧ ∀ j (hj : j < i), eqS (ls[j]'(by omega)).name ls[i].name = false)) (fun _ i _ => ls.length - (intOf i).toNat)
    case atStart => exact ⟨0, Nat.zero_le _, rfl, rfl, Nat.zero_le _, (Below.refl _ _).alloc (Nat.le_refl _) _, ⟨_, World.ownsMap_made _ _ _ _, OnceD.start⟩, fun _ _ h => by omega⟩
    case round =>
      obtain ⟨k, hk, rfl, rfl, hsum, hb, hM, hG⟩ := hrel
      by_cases hlt : k < ls.length
      · obtain ⟨D, hMD, hOD⟩ := hM.out
        have HM := hid_ hMD
        have HO := hid_ hOD
        clear hMD hOD hM
        obtain ⟨g, o, A2, c2, rfl, hg, hg', e0, e1, e2, e3, e4, hl2, hC2⟩ := atLevel HC.out hb.out k hlt
        have HC2 := hid_ hC2
        clear hC2
        have hfa := hid_ (HE.out _ (List.getElem_mem hlt))
        have hml := hfa.out.many
        have HS := hid_ (labelSum_take hlt)
        have HK := hid_ (keyOfS hfa.out.name)
        have hz := hb.out.size
        have HLB := hid_ (blk_new wr (.cells #[.string ls[k].name, .int .i64 ls[k].pre, .slice A2 ls[k].labels.length c2, .int .i64 ls[k].min, .int .i64 ls[k].cents] 41))
        have f0 := boxAt HLB.out 0 rfl
        have f2 := boxAt HLB.out 2 rfl
        have HAL := hid_ ((Below.refl wr.heap.size wr).alloc (Nat.le_refl _) (.cells #[.string ls[k].name, .int .i64 ls[k].pre, .slice A2 ls[k].labels.length c2, .int .i64 ls[k].min, .int .i64 ls[k].cents] 41))
        have HMA := hid_ (HM.out.alloc (.cells #[.string ls[k].name, .int .i64 ls[k].pre, .slice A2 ls[k].labels.length c2, .int .i64 ls[k].min, .int .i64 ls[k].cents] 41))
        have HBA := hid_ (below_alloc' hb.out (.cells #[.string ls[k].name, .int .i64 ls[k].pre, .slice A2 ls[k].labels.length c2, .int .i64 ls[k].min, .int .i64 ls[k].cents] 41))
        have hne : w.heap.size ≠ wr.heap.size := by have := HM.out.lt; omega
        cases q1 : ((ls.take k).map (·.name)).any (eqS ls[k].name)
        · have HAT : Hid (D.atKey (.string ls[k].name.data.toList) (.lit (.int .i64 0)) = .lit (.int .i64 0)) := by
            have h1 := HO.out.at_ ls[k].name
            rw [q1] at h1
            exact h1
          have HNM : Hid (∀ j (hj : j < k), eqS (ls[j]'(by omega)).name ls[k].name = false) := by
            intro j hj
            rw [List.any_eq_false] at q1
            have h1 := q1 (ls[j]'(by omega)).name (List.mem_map.2 ⟨ls[j]'(by omega), List.mem_take_iff_getElem.2 ⟨j, by omega, rfl⟩, rfl⟩)
            rw [eqS_comm]
            simpa using h1
          by_cases hs : 200 < labelSum (ls.take k) + ls[k].labels.length
          · have HX := hid_ (right_no (ls := ls) (.inr (.inr (by
              have h1 := labelSum_take hlt
              have h2 := labelSum_mono ls (k + 1)
              omega))))
            clear q1 HS
            go_wp2_with (first | (at_lookup; refine wpList_lookup_own_int _ rfl _ _ 88 rfl 9 3 .i64 lawS Tryd.underlying88 Tryd.underlying3 (zeroInt _) _ _ _ rfl HMA.out _ _ rfl HK.out ?_; intro c0 hat hwc; obtain rfl : (0 : Int) = c0 := lit_int (HAT.out.symm.trans hat); clear hat hwc) | (at_mapUpdate; refine wpList_mapUpdate_own _ rfl _ _ _ 88 rfl 9 3 lawS Tryd.underlying88 _ _ _ _ rfl HMA.out (by unfold maxLen; omega) _ (.int .i64 1) _ rfl rfl HK.out _ [] (plainElem_int Tryd.underlying3 (by decide)) ?_; intro w1 hm1 hg1; have HMU := hid_ hm1; obtain ⟨c1, hlk, hat, _⟩ := hm1.lookup_int lawS Tryd.underlying88 Tryd.underlying3 (zeroInt _) HK.out; obtain rfl : (1 : Int) = c1 := lit_int ((atKey_put_same HO.out.map (keyS_isKey _) _ _).symm.trans hat); clear hat; have xl := blk_grown HLB.out hg1 (by simpa using hne.symm); have f0' := boxAt xl 0 rfl; have f1' := boxAt xl 1 rfl; have f2' := boxAt xl 2 rfl; have f3' := boxAt xl 3 rfl; have f4' := boxAt xl 4 rfl; have HB1 := hid_ (HBA.out.grown hg1 HBA.out.size (fun k hk => by injection hk with hk; omega)); clear hm1 hg1 xl))
            go_ret
            exact ⟨ret_bool HX.out.symm, HB1.out⟩
          · obtain ⟨lb, hlb, dl⟩ : ∃ lb : Bool, Hid (lb = decide (k + 1 = ls.length)) ∧ ((k : Int) == (ls.length : Int) - 1) = lb := ⟨_, rfl, by
              rw [Bool.eq_iff_iff]
              simp
              omega⟩
            cases hal : aloneS ls[k] lb
            · have HX := hid_ (right_bad hlt (fun hg => by have := hg.alone; rw [← hlb.out, hal] at this; cases this))
              clear q1 HS
              go_wp2_with (first | (at_lookup; refine wpList_lookup_own_int _ rfl _ _ 88 rfl 9 3 .i64 lawS Tryd.underlying88 Tryd.underlying3 (zeroInt _) _ _ _ rfl HMA.out _ _ rfl HK.out ?_; intro c0 hat hwc; obtain rfl : (0 : Int) = c0 := lit_int (HAT.out.symm.trans hat); clear hat hwc) | (at_mapUpdate; refine wpList_mapUpdate_own _ rfl _ _ _ 88 rfl 9 3 lawS Tryd.underlying88 _ _ _ _ rfl HMA.out (by unfold maxLen; omega) _ (.int .i64 1) _ rfl rfl HK.out _ [] (plainElem_int Tryd.underlying3 (by decide)) ?_; intro w1 hm1 hg1; have HMU := hid_ hm1; obtain ⟨c1, hlk, hat, _⟩ := hm1.lookup_int lawS Tryd.underlying88 Tryd.underlying3 (zeroInt _) HK.out; obtain rfl : (1 : Int) = c1 := lit_int ((atKey_put_same HO.out.map (keyS_isKey _) _ _).symm.trans hat); clear hat; have xl := blk_grown HLB.out hg1 (by simpa using hne.symm); have f0' := boxAt xl 0 rfl; have f1' := boxAt xl 1 rfl; have f2' := boxAt xl 2 rfl; have f3' := boxAt xl 3 rfl; have f4' := boxAt xl 4 rfl; have HB1 := hid_ (HBA.out.grown hg1 HBA.out.size (fun k hk => by injection hk with hk; omega)); clear hm1 hg1 xl) | (go_at_call 41; refine (salone_any ls[k] lb _ _ _ (Kd.C_below HC2.out HB1.out) hfa.out).mono ?_; rintro e w2 ⟨rfl, hb2⟩; have HB2 := hid_ (below_then HB1.out HB1.out.size hb2); have HMV := hid_ (ownsMap_below HMU.out hb2); clear hb2))
              go_ret
              exact ⟨ret_bool HX.out.symm, HB2.out⟩
            · have HALN : Hid (aloneS ls[k] (decide (k + 1 = ls.length)) = true) := by rw [Hid, ← hlb.out]; exact hal
              have HSN : Hid (labelSum (ls.take (k + 1)) ≤ 200) := by rw [Hid, HS.out]; omega
              clear q1
              go_wp2_with (first | (at_lookup; refine wpList_lookup_own_int _ rfl _ _ 88 rfl 9 3 .i64 lawS Tryd.underlying88 Tryd.underlying3 (zeroInt _) _ _ _ rfl HMA.out _ _ rfl HK.out ?_; intro c0 hat hwc; obtain rfl : (0 : Int) = c0 := lit_int (HAT.out.symm.trans hat); clear hat hwc) | (at_mapUpdate; refine wpList_mapUpdate_own _ rfl _ _ _ 88 rfl 9 3 lawS Tryd.underlying88 _ _ _ _ rfl HMA.out (by unfold maxLen; omega) _ (.int .i64 1) _ rfl rfl HK.out _ [] (plainElem_int Tryd.underlying3 (by decide)) ?_; intro w1 hm1 hg1; have HMU := hid_ hm1; obtain ⟨c1, hlk, hat, _⟩ := hm1.lookup_int lawS Tryd.underlying88 Tryd.underlying3 (zeroInt _) HK.out; obtain rfl : (1 : Int) = c1 := lit_int ((atKey_put_same HO.out.map (keyS_isKey _) _ _).symm.trans hat); clear hat; have xl := blk_grown HLB.out hg1 (by simpa using hne.symm); have f0' := boxAt xl 0 rfl; have f1' := boxAt xl 1 rfl; have f2' := boxAt xl 2 rfl; have f3' := boxAt xl 3 rfl; have f4' := boxAt xl 4 rfl; have HB1 := hid_ (HBA.out.grown hg1 HBA.out.size (fun k hk => by injection hk with hk; omega)); clear hm1 hg1 xl) | (go_at_call 41; refine (salone_any ls[k] lb _ _ _ (Kd.C_below HC2.out HB1.out) hfa.out).mono ?_; rintro e w2 ⟨rfl, hb2⟩; have HB2 := hid_ (below_then HB1.out HB1.out.size hb2); have HMV := hid_ (ownsMap_below HMU.out hb2); clear hb2))
              go_roundw
              case rel =>
                refine ⟨k + 1, by omega, by go_num, by rw [HS.out]; go_num, HSN.out, HB2.out, ⟨_, HMV.out, ?_⟩, ?_⟩
                · have h1 := HO.out.push ls[k].name
                  rw [List.take_succ_eq_append_getElem hlt, List.map_append]
                  exact h1
                · intro i hi hik
                  by_cases e : i = k
                  · subst e; exact ⟨HALN.out, HNM.out⟩
                  · exact hG.out i hi (by omega)
              case measure => simp [intOf]; omega
        · have HAT : Hid (D.atKey (.string ls[k].name.data.toList) (.lit (.int .i64 0)) = .lit (.int .i64 1)) := by
            have h1 := HO.out.at_ ls[k].name
            rw [q1] at h1
            exact h1
          have HX := hid_ (right_bad hlt (fun hg => by
            rw [List.any_eq_true] at q1
            obtain ⟨nm, hnm, he⟩ := q1
            obtain ⟨x, hx, rfl⟩ := List.mem_map.1 hnm
            obtain ⟨j, hj, rfl⟩ := List.mem_take_iff_getElem.1 hx
            have := hg.names j (by omega)
            rw [eqS_comm, he] at this
            cases this))
          by_cases hs : 200 < labelSum (ls.take k) + ls[k].labels.length
          · clear q1 HS
            go_wp2_with (first | (at_lookup; refine wpList_lookup_own_int _ rfl _ _ 88 rfl 9 3 .i64 lawS Tryd.underlying88 Tryd.underlying3 (zeroInt _) _ _ _ rfl HMA.out _ _ rfl HK.out ?_; intro c0 hat hwc; obtain rfl : (1 : Int) = c0 := lit_int (HAT.out.symm.trans hat); clear hat hwc) | (at_mapUpdate; refine wpList_mapUpdate_own _ rfl _ _ _ 88 rfl 9 3 lawS Tryd.underlying88 _ _ _ _ rfl HMA.out (by unfold maxLen; omega) _ (.int .i64 2) _ rfl rfl HK.out _ [] (plainElem_int Tryd.underlying3 (by decide)) ?_; intro w1 hm1 hg1; have HMU := hid_ hm1; obtain ⟨c1, hlk, hat, _⟩ := hm1.lookup_int lawS Tryd.underlying88 Tryd.underlying3 (zeroInt _) HK.out; obtain rfl : (2 : Int) = c1 := lit_int ((atKey_put_same HO.out.map (keyS_isKey _) _ _).symm.trans hat); clear hat; have xl := blk_grown HLB.out hg1 (by simpa using hne.symm); have f0' := boxAt xl 0 rfl; have f1' := boxAt xl 1 rfl; have f2' := boxAt xl 2 rfl; have f3' := boxAt xl 3 rfl; have f4' := boxAt xl 4 rfl; have HB1 := hid_ (HBA.out.grown hg1 HBA.out.size (fun k hk => by injection hk with hk; omega)); clear hm1 hg1 xl))
            go_ret
            exact ⟨ret_bool HX.out.symm, HB1.out⟩
          · clear q1 HS
            go_wp2_with (first | (at_lookup; refine wpList_lookup_own_int _ rfl _ _ 88 rfl 9 3 .i64 lawS Tryd.underlying88 Tryd.underlying3 (zeroInt _) _ _ _ rfl HMA.out _ _ rfl HK.out ?_; intro c0 hat hwc; obtain rfl : (1 : Int) = c0 := lit_int (HAT.out.symm.trans hat); clear hat hwc) | (at_mapUpdate; refine wpList_mapUpdate_own _ rfl _ _ _ 88 rfl 9 3 lawS Tryd.underlying88 _ _ _ _ rfl HMA.out (by unfold maxLen; omega) _ (.int .i64 2) _ rfl rfl HK.out _ [] (plainElem_int Tryd.underlying3 (by decide)) ?_; intro w1 hm1 hg1; have HMU := hid_ hm1; obtain ⟨c1, hlk, hat, _⟩ := hm1.lookup_int lawS Tryd.underlying88 Tryd.underlying3 (zeroInt _) HK.out; obtain rfl : (2 : Int) = c1 := lit_int ((atKey_put_same HO.out.map (keyS_isKey _) _ _).symm.trans hat); clear hat; have xl := blk_grown HLB.out hg1 (by simpa using hne.symm); have f0' := boxAt xl 0 rfl; have f1' := boxAt xl 1 rfl; have f2' := boxAt xl 2 rfl; have f3' := boxAt xl 3 rfl; have f4' := boxAt xl 4 rfl; have HB1 := hid_ (HBA.out.grown hg1 HBA.out.size (fun k hk => by injection hk with hk; omega)); clear hm1 hg1 xl))
            go_ret
            exact ⟨ret_bool HX.out.symm, HB1.out⟩
      · have hke : k = ls.length := by omega
        have HG : Hid (∀ i (h : i < ls.length), aloneS ls[i] (decide (i + 1 = ls.length)) = true ∧ ∀ j (hj : j < i), eqS (ls[j]'(by omega)).name ls[i].name = false) := fun i hi => hG.out i hi (by omega)
        have HSUM : Hid (labelSum ls ≤ 200) := by
          have := hsum
          rw [hke, List.take_length] at this
          exact this
        have HB := hid_ hb.out
        clear hG hM hb hke
        go_wp2
        obtain ⟨wo, rfl⟩ : ∃ wo : World, wo = wr := ⟨_, rfl⟩
        go_loopw [7] (fun i wr => ∃ a : Nat, 1 ≤ a ∧ a ≤ ls.length ∧ i = .int .i64 a ∧ Hid (∀ i (h : i < ls.length), i < a → GoodAt ls i h) ∧ Hid (Below w.heap.size w wr)) (fun i _ => ls.length - (intOf i).toNat)
        case atStart => exact ⟨1, Nat.le_refl _, h, rfl, fun i hi h1 => by
          obtain rfl : i = 0 := by omega
          exact ⟨(HG.out 0 hi).1, (HG.out 0 hi).2, fun h => absurd h (by omega), fun h => absurd h (by omega)⟩, HB.out⟩
        case round =>
          obtain ⟨a, ha1, ha, rfl, hGo, hby⟩ := hrel
          by_cases hla : a < ls.length
          · have HG' : Hid (GoodAt ls a hla → ∀ i (h : i < ls.length), i < a + 1 → GoodAt ls i h) := by
              intro hga i hi hia
              by_cases e : i = a
              · subst e; exact hga
              · exact hGo.out i hi (by omega)
            obtain ⟨j, rfl⟩ : ∃ j, a = j + 1 := ⟨a - 1, by omega⟩
            obtain ⟨g2, o2, A3, c3, rfl, _, hg2, f0, f1, f2, f3, f4, _, hC3⟩ := atLevel HC.out hby.out (j + 1) hla
            obtain ⟨g3, o3, A4, c4, e2, _, _, k0, k1, k2, k3, k4, _, hC4⟩ := atLevel HC.out hby.out j (by omega)
            injection e2 with e2
            injection e2 with e2 e3
            subst e2; subst e3
            have HC3 := hid_ hC3
            have HC4 := hid_ hC4
            clear hC3 hC4
            have HFJ := hid_ (HE.out _ (List.getElem_mem (show j < ls.length by omega)))
            have HFA := hid_ (HE.out _ (List.getElem_mem hla)).many
            have HGJ := hid_ ((HG.out j (by omega)).1)
            have HGA0 := hid_ ((HG.out (j + 1) hla).1)
            have HNA := hid_ ((HG.out (j + 1) hla).2)
            by_cases q1 : ls[j + 1].pre ≤ ls[j].pre
            · have q0 : 0 ≤ ls[j + 1].pre := (alone_gives HGA0.out).2.1
              have F0 := laterCell f0
              have F1 := laterCell f1
              have F2 := laterCell f2
              have F3 := laterCell f3
              have F4 := laterCell f4
              have K0 := laterCell k0
              have K1 := laterCell k1
              have K2 := laterCell k2
              have K3 := laterCell k3
              have K4 := laterCell k4
              have d1 : decide (ls[j].pre < ls[j + 1].pre) = false := by simp; omega
              clear f0 f1 f2 f3 f4 k0 k1 k2 k3 k4
              cases q2 : nestedS ls[j] ls[j + 1]
              · have HX := hid_ (right_bad hla (fun hg => by have h7 : nestedS ls[j] ls[j + 1] = true := hg.nest (by omega); rw [q2] at h7; cases h7))
                go_wp2
                refine wp_region_later (by kernel_rfl) (by kernel_rfl) ?_
                repeat (go_big_quiet_step ((go_at_call 42; exact later_of (snested_any ls[j] ls[j + 1] _ _ _ _ _ (laterC HC4.out hby.out _) (laterC HC3.out hby.out _) HFJ.out HFA.out (alone_asc HGJ.out) (alone_asc HGA0.out) q0 q1 (alone_sizes HGJ.out)))))
                refine wpQuiet_nil ?_
                rintro _ ⟨⟨W, hW⟩, rfl⟩
                go_wp2
                go_ret
                exact ⟨ret_bool HX.out.symm, below_then hby.out hby.out.size hW⟩
              · have HGA := hid_ (HG'.out ⟨HGA0.out, HNA.out, fun _ => q1, fun _ => q2⟩)
                go_wp2
                refine wp_region_later (by kernel_rfl) (by kernel_rfl) ?_
                repeat (go_big_quiet_step ((go_at_call 42; exact later_of (snested_any ls[j] ls[j + 1] _ _ _ _ _ (laterC HC4.out hby.out _) (laterC HC3.out hby.out _) HFJ.out HFA.out (alone_asc HGJ.out) (alone_asc HGA0.out) q0 q1 (alone_sizes HGJ.out)))))
                refine wpQuiet_nil ?_
                rintro _ ⟨⟨W, hW⟩, rfl⟩
                go_wp2
                go_roundw
                case rel => exact ⟨j + 2, by omega, by omega, by go_num, HGA.out, below_then hby.out hby.out.size hW⟩
                case measure => simp [intOf]; omega
            · have HX := hid_ (right_bad hla (fun hg => by have := hg.less (by omega); exact q1 this))
              have d1 : decide (ls[j].pre < ls[j + 1].pre) = true := by simp; omega
              clear f0 f2 f3 f4 k0 k2 k3 k4
              go_wp2
              go_quiet (fail)
              go_wp2
              go_ret
              exact ⟨ret_bool HX.out.symm, pw_below_drewN hby.out _⟩
          · have HX : Hid (rightS ls = true) := right_iff.2 ⟨h, h', HSUM.out, fun i hi => hGo.out i hi (by omega)⟩
            go_wp2
            go_ret
            exact ⟨ret_bool HX.out.symm, hby.out⟩
end Go.Proofs.YtejmlkfdkodabaaDoor
namespace Go.Proofs.YtejmlkfdkodabaaDoor
open Go.RowKit LB Go.Proofs.YtejmlkfdkodabaaDoorW.PrintWords

def firstI {α : Type} (p : α → Bool) (xs : List α) : Int := match xs.findIdx? p with | some i => i | none => -1
theorem firstI_none {α : Type} {p : α → Bool} {xs : List α} (h : xs.any p = false) : firstI p xs = -1 := by
  unfold firstI
  rw [List.findIdx?_eq_none_iff.2 (by simpa using h)]
theorem firstI_at {α : Type} {p : α → Bool} {xs : List α} {k : Nat} (hk : k < xs.length) (h : (xs.take k).any p = false) (hp : p xs[k] = true) : firstI p xs = k := by
  unfold firstI
  rw [List.findIdx?_eq_some_iff_getElem.2 ⟨hk, hp, fun j hj => by
    rw [List.any_eq_false] at h
    exact h _ (List.mem_take_iff_getElem.2 ⟨j, by omega, rfl⟩)⟩]
theorem firstI_nn {α : Type} {p : α → Bool} {xs : List α} : decide (0 ≤ firstI p xs) = xs.any p := by
  unfold firstI
  cases h : xs.findIdx? p with
  | none =>
    rw [List.findIdx?_eq_none_iff] at h
    symm
    rw [show xs.any p = false from by simpa using h]
    rfl
  | some i =>
    obtain ⟨hi, hp, _⟩ := List.findIdx?_eq_some_iff_getElem.1 h
    rw [any_true_at hi hp]
    simp
set_option maxHeartbeats 1000000 in
theorem indexInts_any (f : Nat) (cap : Array Value) (p : Int → Bool) (xs : List Int) (A : Option Addr) (c : Nat) (w : World) (hC : Kd.C (Kd.int .i64) w A xs.length xs) (hm : xs.length ≤ 1000000) (eg : ∀ args w, (callFunc f args).run Tryd.prog w = .ok (.enter f args) w)
    (hp : ∀ W, Below w.heap.size w W → ∀ x ∈ xs, Calls Tryd.prog f (#[.int .i64 x] ++ cap) W fun e w' => e = .returned (.bool (p x)) ∧ Below W.heap.size W w') :
    Calls Tryd.prog 75 #[.slice A xs.length c, .func (.func f) #[] cap] w fun e w' => e = .returned (.int .i64 (firstI p xs)) ∧ Below w.heap.size w w' := by
  have HC := hid_ hC
  have HP := hid_ hp
  clear hC hp
  go_enter Tryd.func75, Tryd.ntmps75
  go_wp2
  go_loopw [8] (fun i wr => ∃ k : Nat, k ≤ xs.length ∧ i = .int .i64 k ∧ Hid ((xs.take k).any p = false) ∧ Hid (Below w.heap.size w wr)) (fun i _ => xs.length - (intOf i).toNat)
  case atStart => exact ⟨0, Nat.zero_le _, rfl, by simp [Hid], Below.refl _ _⟩
  case round =>
    obtain ⟨k, hk, rfl, hall, hb⟩ := hrel
    by_cases hlt : k < xs.length
    · obtain ⟨g, o, rfl, hg, _, c0⟩ := atInt HC.out hb.out k hlt
      have HPK := HP.out _ hb.out _ (List.getElem_mem hlt)
      have HN := hid_ (any_take_succ (p := p) hlt)
      have HF := hid_ (firstI_at hlt hall.out)
      generalize xs[k] = x at c0 HPK HN HF
      cases q : p x
      · rw [q] at HPK
        have HX : Hid ((xs.take (k + 1)).any p = false) := by rw [Hid, HN.out, hall.out, q]; rfl
        clear q
        go_wp2_with (go_at_fn f; refine HPK.mono ?_; rintro e w1 ⟨rfl, hb1⟩)
        go_roundw
        case rel => exact ⟨k + 1, by omega, by go_num, HX.out, below_then hb.out hb.out.size hb1⟩
        case measure => simp [intOf]; omega
      · rw [q] at HPK
        have HX := hid_ (HF.out q)
        clear q
        go_wp2_with (go_at_fn f; refine HPK.mono ?_; rintro e w1 ⟨rfl, hb1⟩)
        go_ret
        exact ⟨ret_int HX.out.symm, below_then hb.out hb.out.size hb1⟩
    · have HX := hid_ (firstI_none (any_of_take (p := p) (show xs.length ≤ k by omega) hall.out))
      go_wp2
      go_ret
      exact ⟨ret_int HX.out.symm, hb.out⟩
set_option maxHeartbeats 1000000 in
theorem containsInts_any (f : Nat) (cap : Array Value) (p : Int → Bool) (xs : List Int) (A : Option Addr) (c : Nat) (w : World) (hC : Kd.C (Kd.int .i64) w A xs.length xs) (hm : xs.length ≤ 1000000) (eg : ∀ args w, (callFunc f args).run Tryd.prog w = .ok (.enter f args) w)
    (hp : ∀ W, Below w.heap.size w W → ∀ x ∈ xs, Calls Tryd.prog f (#[.int .i64 x] ++ cap) W fun e w' => e = .returned (.bool (p x)) ∧ Below W.heap.size W w') :
    Calls Tryd.prog 50 #[.slice A xs.length c, .func (.func f) #[] cap] w fun e w' => e = .returned (.bool (xs.any p)) ∧ Below w.heap.size w w' := by
  have HI := indexInts_any f cap p xs A c w hC hm eg hp
  have HX := hid_ (firstI_nn (p := p) (xs := xs))
  clear hC hp
  go_enter Tryd.func50, Tryd.ntmps50
  go_wp2_with (go_at_call 75; refine HI.mono ?_; rintro e w1 ⟨rfl, hb1⟩)
  go_ret
  exact ⟨ret_bool HX.out, hb1⟩
set_option maxHeartbeats 1000000 in
theorem indexStrs_any (f : Nat) (cap : Array Value) (p : ByteArray → Bool) (xs : List ByteArray) (A : Option Addr) (c : Nat) (w : World) (hC : Kd.C Kd.string w A xs.length xs) (hm : xs.length ≤ 1000000) (eg : ∀ args w, (callFunc f args).run Tryd.prog w = .ok (.enter f args) w)
    (hp : ∀ W, Below w.heap.size w W → ∀ x ∈ xs, Calls Tryd.prog f (#[.string x] ++ cap) W fun e w' => e = .returned (.bool (p x)) ∧ Below W.heap.size W w') :
    Calls Tryd.prog 43 #[.slice A xs.length c, .func (.func f) #[] cap] w fun e w' => e = .returned (.int .i64 (firstI p xs)) ∧ Below w.heap.size w w' := by
  have HC := hid_ hC
  have HP := hid_ hp
  clear hC hp
  go_enter Tryd.func43, Tryd.ntmps43
  go_wp2
  go_loopw [8] (fun i wr => ∃ k : Nat, k ≤ xs.length ∧ i = .int .i64 k ∧ Hid ((xs.take k).any p = false) ∧ Hid (Below w.heap.size w wr)) (fun i _ => xs.length - (intOf i).toNat)
  case atStart => exact ⟨0, Nat.zero_le _, rfl, by simp [Hid], Below.refl _ _⟩
  case round =>
    obtain ⟨k, hk, rfl, hall, hb⟩ := hrel
    by_cases hlt : k < xs.length
    · obtain ⟨g, o, rfl, hg, _, c0⟩ := atStr HC.out hb.out k hlt
      have HPK := HP.out _ hb.out _ (List.getElem_mem hlt)
      have HN := hid_ (any_take_succ (p := p) hlt)
      have HF := hid_ (firstI_at hlt hall.out)
      generalize xs[k] = x at c0 HPK HN HF
      cases q : p x
      · rw [q] at HPK
        have HX : Hid ((xs.take (k + 1)).any p = false) := by rw [Hid, HN.out, hall.out, q]; rfl
        clear q
        go_wp2_with (go_at_fn f; refine HPK.mono ?_; rintro e w1 ⟨rfl, hb1⟩)
        go_roundw
        case rel => exact ⟨k + 1, by omega, by go_num, HX.out, below_then hb.out hb.out.size hb1⟩
        case measure => simp [intOf]; omega
      · rw [q] at HPK
        have HX := hid_ (HF.out q)
        clear q
        go_wp2_with (go_at_fn f; refine HPK.mono ?_; rintro e w1 ⟨rfl, hb1⟩)
        go_ret
        exact ⟨ret_int HX.out.symm, below_then hb.out hb.out.size hb1⟩
    · have HX := hid_ (firstI_none (any_of_take (p := p) (show xs.length ≤ k by omega) hall.out))
      go_wp2
      go_ret
      exact ⟨ret_int HX.out.symm, hb.out⟩
set_option maxHeartbeats 1000000 in
theorem containsStrs_any (f : Nat) (cap : Array Value) (p : ByteArray → Bool) (xs : List ByteArray) (A : Option Addr) (c : Nat) (w : World) (hC : Kd.C Kd.string w A xs.length xs) (hm : xs.length ≤ 1000000) (eg : ∀ args w, (callFunc f args).run Tryd.prog w = .ok (.enter f args) w)
    (hp : ∀ W, Below w.heap.size w W → ∀ x ∈ xs, Calls Tryd.prog f (#[.string x] ++ cap) W fun e w' => e = .returned (.bool (p x)) ∧ Below W.heap.size W w') :
    Calls Tryd.prog 28 #[.slice A xs.length c, .func (.func f) #[] cap] w fun e w' => e = .returned (.bool (xs.any p)) ∧ Below w.heap.size w w' := by
  have HI := indexStrs_any f cap p xs A c w hC hm eg hp
  have HX := hid_ (firstI_nn (p := p) (xs := xs))
  clear hC hp
  go_enter Tryd.func28, Tryd.ntmps28
  go_wp2_with (go_at_call 43; refine HI.mono ?_; rintro e w1 ⟨rfl, hb1⟩)
  go_ret
  exact ⟨ret_bool HX.out, hb1⟩
end Go.Proofs.YtejmlkfdkodabaaDoor
namespace Go.Proofs.YtejmlkfdkodabaaDoor
open Go.RowKit LB Go.Maps Go.Proofs.YtejmlkfdkodabaaDoorW.PrintWords

set_option maxHeartbeats 400000 in
theorem groups1_any (s : ByteArray) (w : World) (hs : s.size ≤ 9223372036854775807) :
    Calls Tryd.prog 29 #[.string s] w fun e w' => e = .returned (.bool (!codeS s)) ∧ Below w.heap.size w w' := by
  go_enter Tryd.func29, Tryd.ntmps29
  go_wp2_with (go_at_call 30; refine (scode_any _ _ hs).mono ?_; rintro e w1 ⟨rfl, hb1⟩)
  go_ret
  exact ⟨rfl, hb1⟩
set_option maxHeartbeats 400000 in
theorem groups2_any (ls : List Level) (A : Option Addr) (c b : Nat) (s : ByteArray) (w W : World) (_ : s.size ≤ 9223372036854775807) (hC : Kd.C kLevel w A ls.length ls) (h0 : 0 < ls.length) (hB : Below w.heap.size w W) (hb : W.heap[b]? = some (.cells #[.slice A ls.length c] 25 (0, 0))) :
    Calls Tryd.prog 31 #[.string s, .pointer (some ⟨b, 0, none⟩)] W fun e w' => e = .returned (.bool (shortOf ls s)) ∧ Below W.heap.size W w' := by
  obtain ⟨g, o, A2, c2, rfl, hg, hg', e0, e1, e2, e3, e4, _, _⟩ := atLevel hC hB 0 h0
  have HV : Hid (shortOf ls s = decide ((s.size : Int) < ls[0].pre)) := by
    match ls, h0 with
    | l :: r, _ => rfl
  have x0 := boxAt hb 0 rfl
  rw [Nat.zero_mul, Nat.add_zero] at e0 e1 e2 e3 e4
  clear hC hB hb e0 e2 e3 e4
  go_enter Tryd.func31, Tryd.ntmps31
  go_wp2
  go_ret
  exact ⟨ret_bool HV.out.symm, Below.refl _ _⟩
/-- What a call of Groups hands back. -/
def GroupsPost (ls : List Level) (cs : List ByteArray) (w : World) (e : Ending) (w' : World) : Prop :=
  (∃ A c, e = .returned (.tuple #[.slice A (groupsS ls cs).1.length c, .int .i64 (groupsS ls cs).2]) ∧ Kd.C kGroup w' A (groupsS ls cs).1.length (groupsS ls cs).1) ∧ Below w.heap.size w w'
theorem groups_early {ls : List Level} {cs : List ByteArray} {n : Int} {w w' : World} (h : groupsS ls cs = ([], n)) (hB : Below w.heap.size w w') : GroupsPost ls cs w (.returned (.tuple #[.slice none 0 0, .int .i64 n])) w' := by
  unfold GroupsPost
  rw [h]
  exact ⟨⟨none, 0, rfl, Kd.C_nil _ _⟩, hB⟩
theorem sgroups_many (ls : List Level) (cs : List ByteArray) (A A2 : Option Addr) (c c2 : Nat) (w : World) (hm : cs.length ≤ 1000000) (h : 2000 < cs.length) :
    Calls Tryd.prog 12 #[.slice A ls.length c, .slice A2 cs.length c2] w (GroupsPost ls cs w) := by
  go_enter Tryd.func12, Tryd.ntmps12
  go_wp2
  go_ret2
  exact groups_early (groups_many h) ((Below.refl _ _).alloc (Nat.le_refl _) _)
set_option maxHeartbeats 1000000 in
theorem sgroups_early (ls : List Level) (cs : List ByteArray) (A A2 : Option Addr) (c c2 : Nat) (w : World) (hL : Kd.C kLevel w A ls.length ls) (hf : LFit ls) (hC : Kd.C Kd.string w A2 cs.length cs) (hfc : ∀ s ∈ cs, s.size ≤ reach) (h : cs.length ≤ 2000)
    (hbad : rightS ls = false ∨ (rightS ls = true ∧ (cs.any (fun s => !codeS s) = true ∨ (cs.any (fun s => !codeS s) = false ∧ cs.any (shortOf ls) = true)))) :
    Calls Tryd.prog 12 #[.slice A ls.length c, .slice A2 cs.length c2] w (GroupsPost ls cs w) := by
  have eg1 := enters_of Tryd.func29 (by kernel_rfl) rfl
  have eg2 := enters_of Tryd.func31 (by kernel_rfl) rfl
  have B0 := hid_ ((Below.refl w.heap.size w).alloc (Nat.le_refl _) (.cells #[.slice A ls.length c] 25))
  have X0 := hid_ (blk_new w (.cells #[.slice A ls.length c] 25))
  have x0 := boxAt X0.out 0 rfl
  have HR := hid_ (sright_any ls A c _ (Kd.C_below hL B0.out) hf)
  have HC1 := hid_ (fun (W : World) (hW : Below w.heap.size w W) => containsStrs_any 29 #[] (fun s => !codeS s) cs A2 c2 W (Kd.C_below hC hW) (by omega) eg1 (fun W' _ s hs => groups1_any s W' (by have := hfc s hs; unfold reach at this; omega)))
  rcases hbad with q1 | ⟨q1, q2⟩
  · have HX := hid_ (groups_arg (cs := cs) h (by rw [q1]; rfl))
    rw [q1] at HR
    clear q1 eg1 eg2 HC1 hL hC hf hfc
    go_enter Tryd.func12, Tryd.ntmps12
    go_wp2_with (go_at_call 27; refine HR.out.mono ?_; rintro e w1 ⟨rfl, hb1⟩)
    go_ret2
    exact groups_early HX.out (below_then B0.out B0.out.size hb1)
  · have hl0 : 0 < ls.length := (right_iff.1 q1).1
    have HC2 := hid_ (fun (W : World) (hW : Below w.heap.size w W) (hX : W.heap[w.heap.size]? = some (.cells #[.slice A ls.length c] 25 (0, 0))) => containsStrs_any 31 #[.pointer (some ⟨w.heap.size, 0, none⟩)] (shortOf ls) cs A2 c2 W (Kd.C_below hC hW) (by omega) eg2 (fun W' hW' s hs => groups2_any ls A c w.heap.size s w W' (by have := hfc s hs; unfold reach at this; omega) hL hl0 (below_then hW hW.size hW') (blk_below hX hW')))
    rw [q1] at HR
    rcases q2 with q2 | ⟨q2, q3⟩
    · have HX := hid_ (groups_arg (ls := ls) (cs := cs) h (by rw [q2]; simp))
      rw [q2] at HC1
      clear q1 q2 eg1 eg2 HC2 hL hC hf hfc
      go_enter Tryd.func12, Tryd.ntmps12
      go_wp2_with (first | (go_at_call 27; refine HR.out.mono ?_; rintro e w1 ⟨rfl, hb1⟩; have B1 := hid_ (below_then B0.out B0.out.size hb1); clear hb1) | (go_at_call 28; refine (HC1.out _ B1.out).mono ?_; rintro e w2 ⟨rfl, hb2⟩; have B2 := hid_ (below_then B1.out B1.out.size hb2); clear hb2))
      go_ret2
      exact groups_early HX.out B2.out
    · have HX := hid_ (groups_none h q1 q2 q3)
      rw [q2] at HC1
      rw [q3] at HC2
      clear q1 q2 q3 eg1 eg2 hL hC hf hfc
      go_enter Tryd.func12, Tryd.ntmps12
      go_wp2_with (first | (go_at_call 27; refine HR.out.mono ?_; rintro e w1 ⟨rfl, hb1⟩; have B1 := hid_ (below_then B0.out B0.out.size hb1); have X1 := hid_ (blk_below X0.out hb1); clear hb1) | (go_at_call 28; with_reducible refine (HC1.out _ B1.out).mono ?_; rintro e w2 ⟨rfl, hb2⟩; have B2 := hid_ (below_then B1.out B1.out.size hb2); have X2 := hid_ (blk_below X1.out hb2); clear hb2) | (go_at_call 28; with_reducible refine (HC2.out _ B2.out X2.out).mono ?_; rintro e w3 ⟨rfl, hb3⟩; have B3 := hid_ (below_then B2.out B2.out.size hb3); clear hb3))
      go_ret2
      exact groups_early HX.out B3.out
end Go.Proofs.YtejmlkfdkodabaaDoor
namespace Go.Proofs.YtejmlkfdkodabaaDoor
open Go.RowKit LB Go.Maps Go.ChangeShapes Go.Proofs.YtejmlkfdkodabaaDoorW.PrintWords

theorem grown_below {w w1 : World} (h : Below w.heap.size w w1) : w.grownBy w1 none := ⟨h.os, h.tape, h.output, h.size, fun k hk _ => h.block k hk⟩
theorem groups_below {H : Type} {P : Program} {k e : TypeId} {q : IntKind} {base b n : Nat} {D : DataW H} {w w1 : World} (h : w.ownsGroups P k base e q b n D) (hB : Below w.heap.size w w1) : w1.ownsGroups P k base e q b n D :=
  h.kept (grown_below hB) (by simp) (fun es clock hb x _ => by cases hx : x.val.ownBlock <;> simp)
theorem has_foldr {H : Type} (kl : Lit) : ∀ l : List (Lit × DataW H), Maps.has (.map (l.foldr DataW.insert [])) kl = l.any (fun p => p.1.sameKey kl)
  | [] => rfl
  | x :: r => by
    rw [List.foldr_cons, has_eq, any_insert, List.any_cons, ← has_foldr kl r, has_eq]
/-- Of an element nothing is read. -/
def trivR (_ : Value) : Option (DataW Unit × List MemPlace) := some (.nil, [])
theorem groups_triv {P : Program} {k e : TypeId} {q : IntKind} {base b n : Nat} {D : DataW Unit} {w : World} (h : w.ownsGroups P k base e q b n D) : ∃ D', w.ownsMap P k trivR b n D' ∧ (∀ kl, Maps.has D' kl = Maps.has D kl) ∧ Maps.size D' ≤ n := by
  obtain ⟨es, clock, hb, F, hs, rfl, _⟩ := h
  refine ⟨_, ⟨es, clock, hb, ⟨F.size, F.stamped, fun x hx => ?_⟩, hs, rfl⟩, fun kl => ?_, by rw [size_eq, length_sorted, List.length_map]; simpa using hs⟩
  · obtain ⟨y, hy⟩ := F.reads x hx
    exact ⟨_, by
      have hk := WideElems.rd_key hy
      show WideElems.rd P k trivR x = some (y.1, .nil)
      unfold WideElems.rd trivR
      simp [hk]⟩
  · rw [has_foldr, has_foldr, List.any_map, List.any_map]
    rw [Bool.eq_iff_iff, List.any_eq_true, List.any_eq_true]
    have key : ∀ x ∈ es.toList, (WideElems.rg P k trivR x).1 = (WideElems.rg P k (rowElem (H := Unit) w base e q) x).1 := by
      intro x hx
      obtain ⟨y, hy⟩ := F.reads x hx
      have hk := WideElems.rd_key hy
      rw [WideElems.rg_of hy, WideElems.rg_of (show WideElems.rd P k trivR x = some (y.1, .nil) from by unfold WideElems.rd trivR; simp [hk])]
    constructor
    · rintro ⟨x, hx, e⟩
      exact ⟨x, hx, by simpa [key x hx] using e⟩
    · rintro ⟨x, hx, e⟩
      exact ⟨x, hx, by simpa [key x hx] using e⟩
/-- What the map holds after k codes. -/
structure GroupD (col : List ByteArray) (k : Nat) (D : DataW Unit) : Prop where
  map : IsMap D
  has : ∀ s, Maps.has D (keyS s) = (col.take k).any (eqS s)
  at_ : ∀ s, D.atKey (keyS s) .nil = if colItems (col.take k) s = [] then .nil else .slice (lits .i64 (colItems (col.take k) s)) []
theorem GroupD.start (col : List ByteArray) : GroupD col 0 (.map []) := ⟨isMap_empty, fun _ => rfl, fun _ => rfl⟩
theorem lits_inj {a b : List Int} (h : lits (H := Unit) .i64 a = lits .i64 b) : a = b := by
  unfold lits at h
  exact (List.map_inj_right (fun x y hxy => by simpa using hxy)).1 h
theorem GroupD.zs {col : List ByteArray} {k : Nat} {D : DataW Unit} (h : GroupD col k D) {s : ByteArray} {w : World} {base e : Nat} {v : Value} {zs : List Int} (hat : D.atKey (keyS s) .nil = rowDatum .i64 v zs) (ho : w.ownsInts base e .i64 v zs) : zs = colItems (col.take k) s := by
  rw [h.at_] at hat
  rcases ho.datum (H := Unit) with ⟨e1, rfl⟩ | e1
  · rw [e1] at hat
    split at hat
    · rename_i h1; exact h1.symm
    · cases hat
  · rw [e1] at hat
    split at hat
    · cases hat
    · injection hat with h1
      exact (lits_inj h1).symm
theorem GroupD.push {col : List ByteArray} {k : Nat} {D : DataW Unit} (h : GroupD col k D) (hk : k < col.length) : GroupD col (k + 1) (D.put (keyS col[k]) (.slice (lits .i64 (colItems (col.take k) col[k] ++ [(k : Int)])) [])) := by
  refine ⟨h.map.put _ _, fun s => ?_, fun s => ?_⟩
  · rw [any_take_succ hk]
    by_cases e : s = col[k]
    · subst e
      rw [has_put_same h.map (keyS_isKey _), eqS_refl, Bool.or_true]
    · rw [has_put_other (fun e' => e (keyS_inj e')), h.has, eqS_false.2 e, Bool.or_false]
  · rw [colItems_next hk]
    by_cases e : s = col[k]
    · subst e
      rw [atKey_put_same h.map (keyS_isKey _), eqS_refl, if_pos rfl, if_neg (by simp)]
    · rw [atKey_put_other (fun e' => e (keyS_inj e')), h.at_, eqS_false.2 (Ne.symm e)]
      simp
/-- A row of numbers that is held behind block B. -/
def Held (W : World) (B : Nat) (zs : List Int) (v : Value) : Prop :=
  zs = [] ∧ v = .slice none 0 0 ∨ ∃ g cap cells, v = .slice (some ⟨g, 0, none⟩) zs.length cap ∧ zs.length ≤ cap ∧ zs.length ≤ 1000000 ∧ B < g ∧ W.heap[g]? = some (.cells cells 3 (0, 0)) ∧ ∀ j (h : j < zs.length), cells[j]? = some (.int .i64 zs[j])
theorem Held.of_owns {W : World} {base : Nat} {v : Value} {zs : List Int} (h : W.ownsInts base 3 .i64 v zs) (hz : zs.length ≤ 1000000) {B : Nat} (hB : B < base) : Held W B zs v := by
  rcases h.1.2 with ⟨rfl, h0⟩ | ⟨g, cap, cur, rfl, hg, hh, h1, h2, h3, h4⟩
  · exact .inl ⟨List.length_eq_zero_iff.1 h0, rfl⟩
  · refine .inr ⟨g, cap, cur, rfl, by omega, hz, by omega, hh, fun j hj => ?_⟩
    have h5 : (cur.toList.take zs.length)[j]? = (zs.map (Value.int .i64))[j]? := by rw [← h4, Nat.mul_one]
    rw [List.getElem?_take_of_lt hj] at h5
    rw [← Array.getElem?_toList, h5, List.getElem?_map, List.getElem?_eq_getElem hj]
    rfl
theorem Held.keep {W W' : World} {B : Nat} {zs : List Int} {v : Value} (h : Held W B zs v) (hk : ∀ g cells, B < g → W.heap[g]? = some (.cells cells 3 (0, 0)) → W'.heap[g]? = some (.cells cells 3 (0, 0))) : Held W' B zs v := by
  rcases h with h | ⟨g, cap, cells, h1, h2, h2', h3, h4, h5⟩
  · exact .inl h
  · exact .inr ⟨g, cap, cells, h1, h2, h2', h3, hk g cells h3 h4, h5⟩
theorem Held.below {W W' : World} {B : Nat} {zs : List Int} {v : Value} (h : Held W B zs v) (hB : Below W.heap.size W W') : Held W' B zs v := h.keep fun _ _ _ hg => blk_below hg hB
theorem zeroInts (w : World) : (zeroValue 38).run Tryd.prog w = .ok (.slice none 0 0) w := by kernel_rfl
end Go.Proofs.YtejmlkfdkodabaaDoor
namespace Go.Proofs
open Go.Shelf
def Tryd.lays190_ren : Go.Shelf.Ren := ⟨fun | 190 => 33 | 125 => 49 | 258 => 48 | 128 => 73 | 129 => 74 | 302 => 64 | 303 => 65 | 304 => 66 | 305 => 67 | 306 => 68 | 307 => 69 | 308 => 70 | 309 => 71 | 310 => 72 | 333 => 85 | 329 => 86 | 330 => 87 | 334 => 88 | 335 => 89 | 336 => 63 | 344 => 96 | n => n, fun | 31 => 35 | 9 => 9 | 3 => 3 | 46 => 98 | 0 => 0 | 51 => 22 | 53 => 120 | 4 => 4 | 183 => 112 | 182 => 111 | 131 => 92 | 5 => 5 | 218 => 132 | 222 => 136 | 228 => 146 | 229 => 147 | n => n, fun | n => n⟩
theorem Tryd.lays190 : Go.Proofs.Lays.n190 Tryd.prog Tryd.lays190_ren := {
  mixed := by kernel_rfl
  f125 := Tryd.func49.trans (congrArg some (by kernel_rfl))
  f128 := Tryd.func73.trans (congrArg some (by kernel_rfl))
  f129 := Tryd.func74.trans (congrArg some (by kernel_rfl))
  f190 := Tryd.func33.trans (congrArg some (by kernel_rfl))
  f258 := Tryd.func48.trans (congrArg some (by kernel_rfl))
  f302 := Tryd.func64.trans (congrArg some (by kernel_rfl))
  f303 := Tryd.func65.trans (congrArg some (by kernel_rfl))
  f304 := Tryd.func66.trans (congrArg some (by kernel_rfl))
  f305 := Tryd.func67.trans (congrArg some (by kernel_rfl))
  f306 := Tryd.func68.trans (congrArg some (by kernel_rfl))
  f307 := Tryd.func69.trans (congrArg some (by kernel_rfl))
  f308 := Tryd.func70.trans (congrArg some (by kernel_rfl))
  f309 := Tryd.func71.trans (congrArg some (by kernel_rfl))
  f310 := Tryd.func72.trans (congrArg some (by kernel_rfl))
  f329 := Tryd.func86.trans (congrArg some (by kernel_rfl))
  f330 := Tryd.func87.trans (congrArg some (by kernel_rfl))
  f333 := Tryd.func85.trans (congrArg some (by kernel_rfl))
  f334 := Tryd.func88.trans (congrArg some (by kernel_rfl))
  f335 := Tryd.func89.trans (congrArg some (by kernel_rfl))
  f336 := Tryd.func63.trans (congrArg some (by kernel_rfl))
  f344 := Tryd.func96.trans (congrArg some (by kernel_rfl))
  t0 := Tryd.underlying0
  a0 := Tryd.isAgg0
  z0 := Tryd.sizeOf0
  v0 := Tryd.zeroValue0
  t3 := Tryd.underlying3
  a3 := Tryd.isAgg3
  z3 := Tryd.sizeOf3
  v3 := Tryd.zeroValue3
  t4 := Tryd.underlying4
  a4 := Tryd.isAgg4
  z4 := Tryd.sizeOf4
  v4 := Tryd.zeroValue4
  t5 := Tryd.underlying5
  a5 := Tryd.isAgg5
  z5 := Tryd.sizeOf5
  v5 := Tryd.zeroValue5
  t9 := Tryd.underlying9
  a9 := Tryd.isAgg9
  z9 := Tryd.sizeOf9
  v9 := Tryd.zeroValue9
  t31 := Tryd.underlying35
  a31 := Tryd.isAgg35
  z31 := Tryd.sizeOf35
  v31 := Tryd.zeroValue35
  t46 := Tryd.underlying98
  a46 := Tryd.isAgg98
  z46 := Tryd.sizeOf98
  v46 := Tryd.zeroValue98
  t51 := Tryd.underlying22
  a51 := Tryd.isAgg22
  z51 := Tryd.sizeOf22
  v51 := Tryd.zeroValue22
  t53 := Tryd.underlying120
  a53 := Tryd.isAgg120
  z53 := Tryd.sizeOf120
  v53 := Tryd.zeroValue120
  t131 := Tryd.underlying92
  a131 := Tryd.isAgg92
  z131 := Tryd.sizeOf92
  v131 := Tryd.zeroValue92
  t182 := Tryd.underlying111
  a182 := Tryd.isAgg111
  z182 := Tryd.sizeOf111
  v182 := Tryd.zeroValue111
  t183 := Tryd.underlying112
  a183 := Tryd.isAgg112
  z183 := Tryd.sizeOf112
  v183 := Tryd.zeroValue112
  t218 := Tryd.underlying132
  a218 := Tryd.isAgg132
  z218 := Tryd.sizeOf132
  v218 := Tryd.zeroValue132
  t222 := Tryd.underlying136
  a222 := Tryd.isAgg136
  z222 := Tryd.sizeOf136
  v222 := Tryd.zeroValue136
  t228 := Tryd.underlying146
  a228 := Tryd.isAgg146
  z228 := Tryd.sizeOf146
  v228 := Tryd.zeroValue146
  t229 := Tryd.underlying147
  a229 := Tryd.isAgg147
  z229 := Tryd.sizeOf147
  v229 := Tryd.zeroValue147 }
end Go.Proofs
namespace Go.Proofs.YtejmlkfdkodabaaDoor
open Go.RowKit LB Go.Maps Go.Sort Go.Proofs.YtejmlkfdkodabaaDoorW.PrintWords

def bytesOf (s : ByteArray) : List UInt8 := s.data.toList
def ofBytes (l : List UInt8) : ByteArray := ⟨l.toArray⟩
theorem ofBytes_bytes (s : ByteArray) : ofBytes (bytesOf s) = s := by simp [ofBytes, bytesOf]
theorem bytes_ofBytes (l : List UInt8) : bytesOf (ofBytes l) = l := by simp [ofBytes, bytesOf]
theorem encStr_bytes (s : ByteArray) : encStr (bytesOf s) = .string s := by simp [encStr, bytesOf]
def sortedS (xs : List ByteArray) : List ByteArray := ((xs.map bytesOf).mergeSort leB).map ofBytes
theorem sortedS_is {xs : List ByteArray} (hnd : xs.Nodup) : sortedS xs = sortD xs := by
  have tr : ∀ a b c : List UInt8, leB a b = true → leB b c = true → leB a c = true := fun a b c h1 h2 => by simp only [leB, decide_eq_true_eq] at *; exact List.le_trans h1 h2
  have tot : ∀ a b : List UInt8, (leB a b || leB b a) = true := fun a b => by simp only [leB, Bool.or_eq_true, decide_eq_true_eq]; exact List.le_total a b
  have hp := List.mergeSort_perm (xs.map bytesOf) leB
  refine sortD_unique ?_ (fun z => ?_)
  · have hs := List.pairwise_mergeSort tr tot (xs.map bytesOf)
    have hn : ((xs.map bytesOf).mergeSort leB).Nodup := by
      refine hp.nodup_iff.2 ?_
      refine List.pairwise_map.2 (hnd.imp fun {a b} hne e => hne ?_)
      rw [← ofBytes_bytes a, ← ofBytes_bytes b, e]
    unfold sortedS Asc
    refine List.pairwise_map.2 ?_
    refine (hs.and hn).imp fun {a b} ⟨h1, h2⟩ => ?_
    rw [ltS_iff, ByteArray.toList_eq, ByteArray.toList_eq]
    show bytesOf (ofBytes a) < bytesOf (ofBytes b)
    rw [bytes_ofBytes, bytes_ofBytes]
    simp only [leB, decide_eq_true_eq] at h1
    rcases List.le_iff_lt_or_eq.1 h1 with h | h
    · exact h
    · exact absurd h h2
  · unfold sortedS
    rw [List.mem_map]
    constructor
    · rintro ⟨a, ha, rfl⟩
      obtain ⟨x, hx, rfl⟩ := List.mem_map.1 (hp.mem_iff.1 ha)
      rw [ofBytes_bytes]
      exact hx
    · intro hz
      exact ⟨bytesOf z, hp.mem_iff.2 (List.mem_map.2 ⟨z, hz, rfl⟩), ofBytes_bytes z⟩
theorem sort_any {v : Value} {xs : List ByteArray} {base : Nat} {w : World} (HR : Kd.R Kd.string 9 w base (fun _ => True) v xs) (hnd : xs.Nodup) (hm : xs.length ≤ 1000000) :
    Calls Tryd.prog 33 #[v] w fun e w' => e = .returned (.tuple #[]) ∧ Kd.R Kd.string 9 w' base (fun _ => True) v (sortD xs) ∧ w.grownBy w' v.ownBlock := by
  have ho := Kd.own_of_R HR
  have hlen : (sortD xs).length = xs.length := by
    rw [← sortedS_is hnd]
    unfold sortedS
    rw [List.length_map, List.length_mergeSort, List.length_map]
  rcases ho.2 with ⟨rfl, h0⟩ | ⟨g, cap, cur, rfl, hg, hh, h1, h2, h3, h4⟩
  · obtain rfl := List.length_eq_zero_iff.1 h0
    have hc := Any.slices_Sort_string_none Tryd.lays190 none 0 w
    change Calls Tryd.prog 33 _ _ _ at hc
    refine hc.mono ?_
    rintro e w' ⟨rfl, rfl⟩
    exact ⟨rfl, HR, World.grownBy.refl _ _⟩
  · have hH : Holds encStr w g 0 ((xs.map bytesOf)).toArray := holds_of_block hh (by
      rw [List.length_map]
      rw [Nat.mul_one] at h4
      rw [h4]
      unfold encs
      rw [List.map_map]
      exact List.map_congr_left fun s _ => (encStr_bytes s).symm)
    have hc := Any.slices_Sort_string Tryd.lays190 g 0 cap (xs.map bytesOf) w hH (blk_lt hh) (by rw [List.length_map]; omega)
    change Calls Tryd.prog 33 _ _ _ at hc
    rw [List.length_map] at hc
    refine hc.mono ?_
    rintro e w' ⟨rfl, n, os, rfl⟩
    refine ⟨rfl, Kd.R_of_own ?_ (fun _ _ => trivial), grownBy_sorted _⟩
    have h5 := ownsRow_sorted (w := w) (base := base) (n := n) (os := os) (ss := xs.map bytesOf) (ts := (xs.map bytesOf).mergeSort leB) (by rw [List.length_mergeSort]) hg hh (by rw [List.length_map]; exact h1) h2 h3
    rw [List.length_map] at h5
    rw [hlen]
    have h6 : ((xs.map bytesOf).mergeSort leB).map encStr = encs Value.string (sortD xs) := by
      rw [← sortedS_is hnd]
      unfold sortedS encs
      rw [List.map_map]
      refine List.map_congr_left fun l _ => ?_
      show encStr l = .string (ofBytes l)
      rfl
    rw [h6] at h5
    exact h5
end Go.Proofs.YtejmlkfdkodabaaDoor
namespace Go.Proofs.YtejmlkfdkodabaaDoor
open Go.RowKit LB Go.Maps Go.Sort Go.ChangeShapes Go.Proofs.YtejmlkfdkodabaaDoorW.PrintWords

/-! ### the groups as they are laid: items by their slice alone -/
abbrev Sl := Option Addr × Nat × Nat
def encSl (x : Sl) : Value := .slice x.1 x.2.1 x.2.2
abbrev G4 := Int × ByteArray × Int × Sl
def kG4 : Kd G4 := Kd.pair (Kd.int .i64) (Kd.pair Kd.string (Kd.pair (Kd.int .i64) (Kd.scalar encSl (fun _ => rfl))))
theorem kG4_M (w : World) (base : Nat) (ok : Nat → Prop) (x : G4) : kG4.M w base ok x [.int .i64 x.1, .string x.2.1, .int .i64 x.2.2.1, encSl x.2.2.2] := ⟨[_], [_, _, _], rfl, rfl, [_], [_, _], rfl, rfl, [_], [_], rfl, rfl, rfl⟩
theorem kG4_open {w : World} {x : G4} {cs : List Value} (h : kG4.K w x cs) : cs = [.int .i64 x.1, .string x.2.1, .int .i64 x.2.2.1, encSl x.2.2.2] := by
  obtain ⟨_, _, rfl, rfl, _, _, rfl, rfl, _, _, rfl, rfl, rfl⟩ := h
  rfl
structure G4ok (W : World) (B : Nat) (x : G4) (g : Group) : Prop where
  level : x.1 = g.level
  name : x.2.1 = g.name
  up : x.2.2.1 = g.up
  items : Held W B g.items (encSl x.2.2.2)
def OutIs (W : World) (base B : Nat) (v : Value) (gs : List Group) : Prop := ∃ xs : List G4, Kd.R kG4 43 W base (fun _ => True) v xs ∧ xs.length = gs.length ∧ ∀ i (h : i < xs.length) (h' : i < gs.length), G4ok W B xs[i] gs[i]
theorem G4ok.below {W W' : World} {B : Nat} {x : G4} {g : Group} (h : G4ok W B x g) (hB : Below W.heap.size W W') : G4ok W' B x g := ⟨h.level, h.name, h.up, h.items.below hB⟩
theorem OutIs.below {W W' : World} {base B : Nat} {v : Value} {gs : List Group} (h : OutIs W base B v gs) (hB : Below W.heap.size W W') : OutIs W' base B v gs := by
  obtain ⟨xs, h1, h2, h3⟩ := h
  exact ⟨xs, Kd.R_below h1 hB, h2, fun i hi hi' => (h3 i hi hi').below hB⟩
theorem OutIs.nil (W : World) (base B : Nat) : OutIs W base B (.slice none 0 0) [] := ⟨[], Kd.R_nil _ _ _ _ _, rfl, fun i h => absurd h (by simp)⟩
theorem OutIs.slice {W : World} {base B : Nat} {v : Value} {gs : List Group} (h : OutIs W base B v gs) : ∃ A c, v = .slice A gs.length c := by
  obtain ⟨xs, h1, h2, _⟩ := h
  obtain ⟨A, c, rfl⟩ := Kd.R_slice h1
  exact ⟨A, c, by rw [h2]⟩
theorem OutIs.reads {W : World} {base B : Nat} {v : Value} {gs : List Group} (h : OutIs W base B v gs) : ∃ A c, v = .slice A gs.length c ∧ Kd.C kGroup W A gs.length gs := by
  obtain ⟨xs, h1, h2, h3⟩ := h
  obtain ⟨A, c, rfl, _, hC⟩ := Kd.R_reads h1
  refine ⟨A, c, by rw [h2], rfl, by have := hC.2.1; omega, fun hp => ?_⟩
  obtain ⟨ad, e, hc⟩ := hC.2.2 (by omega)
  refine ⟨ad, e, fun j g hj => ?_⟩
  obtain ⟨hjl, rfl⟩ := List.getElem?_eq_some_iff.1 hj
  obtain ⟨cs, hl, hK, hcell⟩ := hc j _ (List.getElem?_eq_getElem (show j < xs.length by omega))
  obtain rfl := kG4_open hK
  have hg := h3 j (by omega) hjl
  refine ⟨_, hl, ?_, hcell⟩
  obtain ⟨e1, e2, e3, e4⟩ := hg
  rw [e1, e2, e3]
  rcases e4 with ⟨z, ez⟩ | ⟨b, cap, cells, ez, hcap, hz, _, hb, hcs⟩
  · rw [ez]
    have := kGroup_mk W gs[j] (A3 := none) (c3 := 0) (by rw [z]; simp) (by rw [z]; exact Kd.C_nil _ _)
    rw [z] at this
    exact this
  · rw [ez]
    refine kGroup_mk W gs[j] hcap ?_
    refine ⟨rfl, by omega, fun hp => ⟨_, rfl, fun k z hk => ?_⟩⟩
    obtain ⟨hkl, rfl⟩ := List.getElem?_eq_some_iff.1 hk
    refine ⟨[.int .i64 gs[j].items[k]], rfl, rfl, fun i u hu => ?_⟩
    match i, hu with
    | 0, hu =>
      obtain rfl : Value.int .i64 gs[j].items[k] = u := by simpa using hu
      have h1 := blk_cell hb k
      rw [hcs k hkl] at h1
      have h2 : (if k = 0 then (⟨b, 0, none⟩ : Addr) else ⟨b, k, none⟩) = ⟨b, k, none⟩ := by
        by_cases e : k = 0
        · subst e; rfl
        · rw [if_neg e]
      simpa [Addr.add, Kd.int, Kd.scalar, h2] using h1
/-- The row of the codes' groups. -/
def BelIs (W : World) (B m : Nat) (f : Nat → Int) : Prop := ∃ cells : Array Value, W.heap[B]? = some (.cells cells 3 (0, 0)) ∧ m ≤ cells.size ∧ ∀ i, i < m → cells[i]? = some (.int .i64 (f i))
theorem BelIs.below {W W' : World} {B m : Nat} {f : Nat → Int} (h : BelIs W B m f) (hB : Below W.heap.size W W') : BelIs W' B m f := by
  obtain ⟨cells, h1, h2, h3⟩ := h
  exact ⟨cells, blk_below h1 hB, h2, h3⟩
theorem BelIs.congr {W : World} {B m : Nat} {f g : Nat → Int} (h : BelIs W B m f) (e : ∀ i, i < m → f i = g i) : BelIs W B m g := by
  obtain ⟨cells, h1, h2, h3⟩ := h
  exact ⟨cells, h1, h2, fun i hi => by rw [← e i hi]; exact h3 i hi⟩
theorem bel_made {W : World} {base : Nat} {v : Value} {m : Nat} (h : Kd.R (Kd.int .i64) 3 W base (fun _ => True) v (List.replicate m 0)) (hn : ∃ b, v.ownBlock = some b ∧ base ≤ b) : ∃ B c, v = .slice (some ⟨B, 0, none⟩) m c ∧ base ≤ B ∧ BelIs W B m (fun _ => 0) := by
  have ho := Kd.own_of_R h
  rw [List.length_replicate] at ho
  rcases ho.2 with ⟨rfl, _⟩ | ⟨g, cap, cur, rfl, hg, hh, h1, h2, h3, h4⟩
  · obtain ⟨b, hb, _⟩ := hn
    simp [Value.ownBlock] at hb
  · refine ⟨g, cap, rfl, hg, cur, hh, by omega, fun i hi => ?_⟩
    have h5 : (cur.toList.take m)[i]? = (encs (Value.int .i64) (List.replicate m (0 : Int)))[i]? := by rw [← h4, Nat.mul_one]
    rw [List.getElem?_take_of_lt hi] at h5
    rw [← Array.getElem?_toList, h5]
    simp [encs, hi]
def bel0 (n : Nat) (P : List Group) (cp : List ByteArray) (i : Nat) : Int := if n = 0 then 0 else (P.length : Int) + (posN (cp.getD i noText) (sortD cp) : Nat)
/-- What the walk over the levels knows ahead of the n-th: the groups of the levels ahead of the last one (P), the last one's column (cp). -/
structure Lvls (ls : List Level) (cs : List ByteArray) (w : World) (B : Nat) (n : Nat) (v : Value) (P : List Group) (cp : List ByteArray) (W : World) : Prop where
  below : Below w.heap.size w W
  out : OutIs W w.heap.size B v (P ++ (sortD cp).map (mkG ((n : Int) - 1) cp))
  bel : BelIs W B cs.length (bel0 n P cp)
  tie : groupsN 0 0 (cols ls cs) = P ++ groupsN ((n : Int) - 1) P.length (cp :: (cols ls cs).drop n)
  zero : n = 0 → P = [] ∧ cp = []
  pos : 0 < n → ∀ h' : n - 1 < ls.length, cp = cs.map (gname ls[n - 1])
  many : (P ++ (sortD cp).map (mkG ((n : Int) - 1) cp)).length ≤ 2000 * n
theorem rdVal_ints {P : Program} {k e : TypeId} {q : IntKind} {base b n : Nat} {D : DataW Unit} {w : World} (h : w.ownsGroups P k base e q b n D) {g : Nat} {cs : Array Value} {T : TypeId} (hg : w.heap[g]? = some (.cells cs T (0, 0))) (hT : T ≠ e ∨ g < base) : ∀ es clock, w.heap[b]? = some (.map es clock) → ∀ x ∈ es.toList, x.val.ownBlock = none ∨ x.val.ownBlock ≠ some g := by
  intro es clock hb x hx
  obtain ⟨es', clock', hb', F, _⟩ := h
  obtain ⟨rfl, rfl⟩ : es' = es ∧ clock' = clock := by rw [hb'] at hb; simpa using hb
  obtain ⟨y, hy⟩ := F.reads x hx
  obtain ⟨z, hz, _⟩ := WideElems.rd_val hy
  obtain ⟨zs, ho, _⟩ := rowElem_inv hz
  rcases ho.1.2 with ⟨e1, _⟩ | ⟨g', cap, cur, e1, hbase, hh, _⟩
  · rw [e1]; exact .inl rfl
  · rw [e1]
    refine .inr fun e2 => ?_
    have : g' = g := by simpa [Value.ownBlock] using e2
    subst this
    rcases hT with hT | hT
    · rw [hg] at hh
      injection hh with hh
      injection hh with _ h2
      exact hT h2
    · omega
theorem groups_far {P : Program} {k e : TypeId} {q : IntKind} {base b n : Nat} {D : DataW Unit} {w : World} (h : w.ownsGroups P k base e q b n D) {g j : Nat} {cs : Array Value} {T : TypeId} (hg : w.heap[g]? = some (.cells cs T (0, 0))) (hT : T ≠ e ∨ g < base) (u : Value) : (w.setCell ⟨g, j, none⟩ u).ownsGroups P k base e q b n D := by
  have hbg : b ≠ g := by
    intro e1
    subst e1
    obtain ⟨es, clock, hb, _⟩ := h
    rw [hg] at hb
    cases hb
  refine h.kept (row := some g) ⟨by simp [World.setCell], by simp [World.setCell], by simp [World.setCell], by simp [World.setCell], fun k' hk' hne => Below.heap_setCell w ⟨g, j, none⟩ u k' (fun e => hne (by rw [e]))⟩ (by simpa using hbg) (rdVal_ints h hg hT)
theorem groups_grown {P : Program} {k e : TypeId} {q : IntKind} {base b n : Nat} {D : DataW Unit} {w w1 : World} (h : w.ownsGroups P k base e q b n D) {α : Type} {d : Kd α} {T base' : Nat} {ok : Nat → Prop} {v : Value} {xs : List α} (hR : d.R T w base' ok v xs) (hT : T ≠ e) (hg : w.grownBy w1 v.ownBlock) : w1.ownsGroups P k base e q b n D := by
  refine h.kept hg ?_ ?_
  · intro e1
    obtain ⟨es, clock, hb, _⟩ := h
    obtain ⟨cells, hc⟩ := Kd.R_typed hR b e1.symm
    rw [hc] at hb
    cases hb
  · intro es clock hb x hx
    cases ho : v.ownBlock with
    | none => cases x.val.ownBlock <;> simp
    | some g =>
      obtain ⟨cells, hc⟩ := Kd.R_typed hR g ho
      exact rdVal_ints h hc (.inl hT) es clock hb x hx
/-- All that the walk over a level's names carries. -/
structure Mid (w : World) (Bb m nb b base n' : Nat) (D : DataW Unit) (N : Value) (S : List ByteArray) (v : Value) (gs : List Group) (f : Nat → Int) (W : World) : Prop where
  below : Below w.heap.size w W
  out : OutIs W w.heap.size Bb v gs
  bel : BelIs W Bb m f
  names : Kd.R Kd.string 9 W nb (fun _ => True) N S
  groups : W.ownsGroups Tryd.prog 9 base 3 .i64 b n' D
section
variable {w : World} {Bb m nb b base n' : Nat} {D : DataW Unit} {N : Value} {S : List ByteArray} {v : Value} {gs : List Group} {f : Nat → Int} {W : World}
theorem OutIs.far (h : OutIs W nb Bb v gs) {cells : Array Value} (hb : W.heap[Bb]? = some (.cells cells 3 (0, 0))) (i : Nat) (u : Value) : OutIs (W.setCell ⟨Bb, i, none⟩ u) nb Bb v gs := by
  obtain ⟨xs, h1, h2, h3⟩ := h
  refine ⟨xs, Kd.R_set h1 hb (by decide) i u, h2, fun j hj hj' => ?_⟩
  obtain ⟨e1, e2, e3, e4⟩ := h3 j hj hj'
  exact ⟨e1, e2, e3, e4.keep fun g cells hg hh => blk_far hh (by show g ≠ Bb; omega) u⟩
theorem Mid.setBel (h : Mid w Bb m nb b base n' D N S v gs f W) (hB : w.heap.size ≤ Bb) (hb : Bb < base) {i : Nat} (hi : i < m) (x : Int) :
    Mid w Bb m nb b base n' D N S v gs (fun j => if j = i then x else f j) (W.setCell ⟨Bb, i, none⟩ (.int .i64 x)) := by
  obtain ⟨cells, h1, h2, h3⟩ := h.bel
  refine ⟨below_set h.below hB, h.out.far h1 _ _, ⟨_, blk_put h1 i _ rfl, by simpa using h2, fun j hj => ?_⟩, Kd.R_set h.names h1 (by decide) _ _, groups_far h.groups h1 (.inr hb) _⟩
  show _ = some (Value.int .i64 (if j = i then x else f j))
  by_cases e : j = i
  · subst e
    rw [if_pos rfl, Array.getElem?_setIfInBounds_self_of_lt (by omega)]
  · rw [if_neg e, Array.getElem?_setIfInBounds_ne (Ne.symm e)]
    exact h3 j hj
theorem Mid.getBel (h : Mid w Bb m nb b base n' D N S v gs f W) {i : Nat} (hi : i < m) : W.cell? ⟨Bb, i, none⟩ = some (.int .i64 (f i)) ∧ W.frozen? ⟨Bb, i, none⟩ = false := by
  obtain ⟨cells, h1, h2, h3⟩ := h.bel
  exact ⟨(blk_cell h1 i).trans (h3 i hi), blk_frozen h1 i⟩
theorem Mid.grown (h : Mid w Bb m nb b base n' D N S v gs f W) {xs : List G4} {p : G4} {g : Group} {v1 : Value} {w1 : World} (hR : Kd.R kG4 43 W w.heap.size (fun _ => True) v xs) (hl : xs.length = gs.length) (hok : ∀ i (h : i < xs.length) (h' : i < gs.length), G4ok W Bb xs[i] gs[i])
    (hp : G4ok W Bb p g) (hR1 : Kd.R kG4 43 w1 w.heap.size (fun _ => True) v1 (xs ++ [p])) (hb : Below w.heap.size w w1) (hg : W.grownBy w1 v.ownBlock) : Mid w Bb m nb b base n' D N S v1 (gs ++ [g]) f w1 := by
  have keep : ∀ g' cells, Bb < g' → W.heap[g']? = some (.cells cells 3 (0, 0)) → w1.heap[g']? = some (.cells cells 3 (0, 0)) := fun g' cells _ hh => blk_grown hh hg (Kd.R_ne hR hh (by decide))
  have okk : ∀ x y, G4ok W Bb x y → G4ok w1 Bb x y := fun x y ⟨e1, e2, e3, e4⟩ => ⟨e1, e2, e3, e4.keep keep⟩
  refine ⟨hb, ⟨xs ++ [p], hR1, by simp [hl], fun i hi hi' => ?_⟩, ?_, ?_, groups_grown h.groups hR (by decide) hg⟩
  · by_cases e : i < xs.length
    · rw [List.getElem_append_left e, List.getElem_append_left (by omega)]
      exact okk _ _ (hok i e (by omega))
    · have : i = xs.length := by simp at hi; omega
      subst this
      rw [List.getElem_append_right (Nat.le_refl _), List.getElem_append_right (by omega)]
      simp only [Nat.sub_self, hl, List.getElem_cons_zero]
      exact okk _ _ hp
  · obtain ⟨cells, h1, h2, h3⟩ := h.bel
    exact ⟨cells, blk_grown h1 hg (Kd.R_ne hR h1 (by decide)), h2, h3⟩
  · exact Kd.R_over h.names hR (by decide) hg
theorem upcells (W : World) (g j : Nat) (u : Value) : W.setCells g j [u] = W.setCell ⟨g, j, none⟩ u := rfl
/-- One group is told where it lies at the next level. -/
theorem Mid.setUp (h : Mid w Bb m nb b base n' D N S v gs f W) {q : Nat} (hq : q < gs.length) : ∃ go co, v = .slice (some ⟨go, 0, none⟩) gs.length co ∧ go < W.heap.size ∧ W.cell? ⟨go, q * 4 + 2, none⟩ = some (.int .i64 gs[q].up) ∧ W.frozen? ⟨go, q * 4 + 2, none⟩ = false ∧ (∀ zs y, Held W Bb zs y → ∀ u, Held (W.setCell ⟨go, q * 4 + 2, none⟩ u) Bb zs y) ∧
    ∀ x : Int, Mid w Bb m nb b base n' D N S v (gs.set q { gs[q] with up := x }) f (W.setCell ⟨go, q * 4 + 2, none⟩ (.int .i64 x)) := by
  obtain ⟨xs, hR, hl, hok⟩ := h.out
  obtain ⟨go, co, rfl, hgo, hgl, cells, hh⟩ := Kd.R_form hR (by omega)
  obtain ⟨_, _, hC⟩ := Kd.R_reads' hR
  obtain ⟨ad, hae, hc⟩ := hC.2.2 (by omega)
  obtain rfl : (⟨go, 0, none⟩ : Addr) = ad := by injection hae
  obtain ⟨cs, hcl, hK, hcell⟩ := hc q _ (List.getElem?_eq_getElem (show q < xs.length by omega))
  obtain rfl := kG4_open hK
  have hgq := hok q (by omega) hq
  have hcell' : ∀ j u, ([Value.int .i64 xs[q].1, .string xs[q].2.1, .int .i64 xs[q].2.2.1, encSl xs[q].2.2.2] : List Value)[j]? = some u → W.cell? ⟨go, (q : Int).toNat * kG4.sz + j, none⟩ = some u := by
    intro j u hu
    have h1 := hcell j u hu
    rw [Int.toNat_natCast]
    unfold Addr.add at h1
    split at h1
    · rename_i h2
      rw [h2]
      exact h1
    · simpa using h1
  refine ⟨go, co, by rw [hl], hgl, ?_, blk_frozen hh _, fun zs y hy u => hy.keep fun g' c' _ h' => blk_far h' (blk_ne h' hh (by decide)) _, fun x => ?_⟩
  · have := hcell' 2 _ rfl
    rw [← hgq.up]
    exact this
  · obtain ⟨hR1, hg1⟩ := Kd.R_seg (x' := (xs[q].1, xs[q].2.1, x, xs[q].2.2.2)) (seg := [.int .i64 x]) (j := 2) (okp := fun k => k ≠ go) hR (q : Int) (by omega) (by omega) (c := [Value.int .i64 xs[q].1, .string xs[q].2.1, .int .i64 xs[q].2.2.1, encSl xs[q].2.2.2]) rfl hcell' (by show 2 + 1 ≤ 4; decide) (kG4_M _ _ _ (xs[q].1, xs[q].2.1, x, xs[q].2.2.2)) (fun k hk => ⟨trivial, hk⟩)
    rw [upcells, Int.toNat_natCast] at hR1 hg1
    have keep : ∀ (g' : Nat) (cells' : Array Value), W.heap[g']? = some (Obj.cells cells' 3 (0, 0)) → (W.setCell ⟨go, q * kG4.sz + 2, none⟩ (.int .i64 x)).heap[g']? = some (Obj.cells cells' 3 (0, 0)) := fun g' cells' h' => blk_far h' (blk_ne h' hh (by decide)) _
    refine ⟨below_set h.below hgo, ⟨xs.set q (xs[q].1, xs[q].2.1, x, xs[q].2.2.2), hR1, by simp [hl], fun i hi hi' => ?_⟩, ?_, Kd.R_set h.names hh (by decide) _ _, groups_far h.groups hh (.inl (by decide)) _⟩
    · by_cases e : i = q
      · subst e
        rw [List.getElem_set_self, List.getElem_set_self]
        exact ⟨hgq.level, hgq.name, rfl, hgq.items.keep fun g' c' _ h' => keep g' c' h'⟩
      · rw [List.getElem_set_ne (Ne.symm e), List.getElem_set_ne (Ne.symm e)]
        obtain ⟨e1, e2, e3, e4⟩ := hok i (by simpa using hi) (by simpa using hi')
        exact ⟨e1, e2, e3, e4.keep fun g' c' _ h' => keep g' c' h'⟩
    · obtain ⟨c', h1, h2, h3⟩ := h.bel
      exact ⟨c', keep Bb c' h1, h2, h3⟩
end
/-- Which codes are done: those of the names ahead of the kk-th, and the first t of the kk-th's. -/
def doneT (col : List ByteArray) (kk : Nat) (its : List Int) (i : Nat) : Bool := decide (posN (col.getD i noText) (sortD col) < kk) || its.contains (i : Int)
def midG (lv : Int) (P : List Group) (cp col : List ByteArray) (kk : Nat) (its : List Int) : List Group := P ++ (sortD cp).map (mkU (lv - 1) (P.length + (sortD cp).length) cp col (doneT col kk its)) ++ ((sortD col).take kk).map (mkG lv col)
def midF (P : List Group) (cp col : List ByteArray) (kk : Nat) (its : List Int) (f0 : Nat → Int) (i : Nat) : Int := if doneT col kk its i then ((P.length + (sortD cp).length : Nat) : Int) + (posN (col.getD i noText) (sortD col) : Nat) else f0 i
theorem midG_len (lv : Int) (P : List Group) (cp col : List ByteArray) {kk : Nat} (h : kk ≤ (sortD col).length) (its : List Int) : (midG lv P cp col kk its).length = P.length + (sortD cp).length + kk := by
  unfold midG
  simp [Nat.min_eq_left h]
  omega
theorem midG_zero (lv : Int) (P : List Group) (cp col : List ByteArray) : midG lv P cp col 0 [] = P ++ (sortD cp).map (mkG (lv - 1) cp) := by
  unfold midG
  rw [List.take_zero, List.map_nil, List.append_nil]
  congr 1
  refine List.map_congr_left fun nm _ => ?_
  have : doneT col 0 [] = fun _ => false := by funext i; simp [doneT]
  rw [this, mkU_none]
theorem midF_zero (P : List Group) (cp col : List ByteArray) (f0 : Nat → Int) : midF P cp col 0 [] f0 = f0 := by
  funext i
  simp [midF, doneT]
theorem col_getD {col : List ByteArray} {i : Nat} (h : i < col.length) : col.getD i noText = col[i] := by
  rw [List.getD_eq_getElem?_getD, List.getElem?_eq_getElem h]
  rfl
/-- All codes of the kk-th name are done: so are those of the names up to it. -/
theorem doneT_next {col : List ByteArray} {kk : Nat} (hk : kk < (sortD col).length) {i : Nat} (hi : i < col.length) : doneT col kk (colItems col (sortD col)[kk]) i = doneT col (kk + 1) [] i := by
  unfold doneT
  rw [col_getD hi]
  have hp := posN_lt (mem_sortD.2 (List.getElem_mem hi))
  have hg := posN_get hp
  rw [Bool.eq_iff_iff]
  simp only [Bool.or_eq_true, decide_eq_true_eq, List.contains_iff_mem, List.not_mem_nil, or_false]
  rw [mem_colItems]
  constructor
  · rintro (h | ⟨k, hkl, e, e'⟩)
    · omega
    · have : i = k := by omega
      subst this
      rw [e', posN_at (asc_sortD col) hk]
      omega
  · intro h
    by_cases e : posN col[i] (sortD col) = kk
    · refine .inr ⟨i, hi, rfl, ?_⟩
      subst e
      exact hg.symm
    · exact .inl (by omega)
theorem doneT_snoc (col : List ByteArray) (kk : Nat) (its : List Int) (i j : Nat) : doneT col kk (its ++ [(i : Int)]) j = (doneT col kk its j || j == i) := by
  unfold doneT
  rw [Bool.or_assoc]
  congr 1
  rw [Bool.eq_iff_iff]
  simp only [List.contains_iff_mem, List.mem_append, List.mem_singleton, Bool.or_eq_true, beq_iff_eq]
  constructor
  · rintro (h | h)
    · exact .inl h
    · exact .inr (by omega)
  · rintro (h | h)
    · exact .inl h
    · exact .inr (by omega)
theorem midG_at? {lv : Int} {P : List Group} {cp col : List ByteArray} {kk : Nat} {its : List Int} {q : Nat} (hq : q < (sortD cp).length) :
    (midG lv P cp col kk its)[P.length + q]? = some (mkU (lv - 1) (P.length + (sortD cp).length) cp col (doneT col kk its) (sortD cp)[q]) := by
  unfold midG
  rw [List.getElem?_append_left (by simp; omega), List.getElem?_append_right (by omega), Nat.add_sub_cancel_left, List.getElem?_map, List.getElem?_eq_getElem hq]
  rfl
theorem midG_at {lv : Int} {P : List Group} {cp col : List ByteArray} {kk : Nat} {its : List Int} {q : Nat} (hq : q < (sortD cp).length) (h : P.length + q < (midG lv P cp col kk its).length) :
    (midG lv P cp col kk its)[P.length + q] = mkU (lv - 1) (P.length + (sortD cp).length) cp col (doneT col kk its) (sortD cp)[q] := (List.getElem?_eq_some_iff.1 (midG_at? hq)).2
theorem midG_set {lv : Int} {P : List Group} {cp col : List ByteArray} (hl : cp.length = col.length) (hn : ∀ i (h : i < cp.length) j (h' : j < cp.length) (k : i < col.length) (k' : j < col.length), cp[i] = cp[j] → col[i] = col[j]) {kk : Nat} (hk : kk < (sortD col).length) {its : List Int} {i : Nat} (hi : i < cp.length) (he : col[i]'(by omega) = (sortD col)[kk])
    (h : P.length + posN cp[i] (sortD cp) < (midG lv P cp col kk its).length) :
    (midG lv P cp col kk its).set (P.length + posN cp[i] (sortD cp)) { (midG lv P cp col kk its)[P.length + posN cp[i] (sortD cp)] with up := ((P.length + (sortD cp).length : Nat) : Int) + (kk : Nat) } = midG lv P cp col kk (its ++ [(i : Int)]) := by
  have hq := posN_lt (mem_sortD.2 (List.getElem_mem hi))
  have hg := posN_get hq
  rw [midG_at hq h]
  have hup : mkF (lv - 1) (P.length + (sortD cp).length) cp col (sortD cp)[posN cp[i] (sortD cp)] = { mkU (lv - 1) (P.length + (sortD cp).length) cp col (doneT col kk its) (sortD cp)[posN cp[i] (sortD cp)] with up := ((P.length + (sortD cp).length : Nat) : Int) + (kk : Nat) } := by
    unfold mkF mkU
    simp only [Group.mk.injEq, true_and, and_true]
    rw [hg, upS_at hn hl.symm hi, he, posN_at (asc_sortD col) hk]
  rw [← hup]
  unfold midG
  rw [List.set_append_left _ _ (by simp; omega), List.set_append_right _ _ (by omega), Nat.add_sub_cancel_left]
  congr 2
  refine List.ext_getElem (by simp) fun q hq1 hq2 => ?_
  rw [List.getElem_map, mkU_step hi (doneT_snoc col kk its i) q (by simpa using hq2)]
  by_cases e : q = posN cp[i] (sortD cp)
  · subst e
    rw [List.getElem_set_self, if_pos rfl]
  · rw [List.getElem_set_ne (Ne.symm e), if_neg e, List.getElem_map]
theorem midF_set {P : List Group} {cp col : List ByteArray} {kk : Nat} (hk : kk < (sortD col).length) {its : List Int} {f0 : Nat → Int} {i : Nat} (hi : i < col.length) (he : col[i] = (sortD col)[kk]) :
    (fun j => if j = i then ((P.length + (sortD cp).length : Nat) : Int) + (kk : Nat) else midF P cp col kk its f0 j) = midF P cp col kk (its ++ [(i : Int)]) f0 := by
  funext j
  by_cases e : j = i
  · subst e
    unfold midF
    rw [if_pos rfl, doneT_snoc, if_pos (by simp), col_getD hi, he, posN_at (asc_sortD col) hk]
  · unfold midF
    rw [if_neg e, doneT_snoc, show (j == i) = false from by simpa using e, Bool.or_false]
theorem midF_next {P : List Group} {cp col : List ByteArray} {kk : Nat} (hk : kk < (sortD col).length) {f0 : Nat → Int} {i : Nat} (hi : i < col.length) : midF P cp col kk (colItems col (sortD col)[kk]) f0 i = midF P cp col (kk + 1) [] f0 i := by
  unfold midF
  rw [doneT_next hk hi]
theorem midG_next {lv : Int} {P : List Group} {cp col : List ByteArray} (hl : cp.length ≤ col.length) {kk : Nat} (hk : kk < (sortD col).length) : midG lv P cp col kk (colItems col (sortD col)[kk]) ++ [mkG lv col (sortD col)[kk]] = midG lv P cp col (kk + 1) [] := by
  unfold midG
  rw [List.take_succ_eq_append_getElem hk, List.map_append, ← List.append_assoc (P ++ _)]
  congr 1
  congr 2
  refine List.map_congr_left fun nm hnm => ?_
  unfold mkU
  have : (colItems cp nm).any (fun z => doneT col kk (colItems col (sortD col)[kk]) z.toNat) = (colItems cp nm).any (fun z => doneT col (kk + 1) [] z.toNat) := by
    rw [Bool.eq_iff_iff, List.any_eq_true, List.any_eq_true]
    constructor
    · rintro ⟨z, hz, h⟩
      obtain ⟨k, hkl, rfl, _⟩ := mem_colItems.1 hz
      exact ⟨_, hz, by rw [← doneT_next hk (by rw [Int.toNat_natCast]; omega)]; exact h⟩
    · rintro ⟨z, hz, h⟩
      obtain ⟨k, hkl, rfl, _⟩ := mem_colItems.1 hz
      exact ⟨_, hz, by rw [doneT_next hk (by rw [Int.toNat_natCast]; omega)]; exact h⟩
  rw [this]
theorem midG_last {lv : Int} {P : List Group} {cp col : List ByteArray} (hl : cp.length ≤ col.length) : midG lv P cp col (sortD col).length [] = P ++ (sortD cp).map (mkF (lv - 1) (P.length + (sortD cp).length) cp col) ++ (sortD col).map (mkG lv col) := by
  unfold midG
  rw [List.take_length]
  congr 2
  refine List.map_congr_left fun nm hnm => mkU_all (fun i hi => ?_) hnm
  unfold doneT
  rw [col_getD (by omega)]
  simpa using posN_lt (mem_sortD.2 (List.getElem_mem (show i < col.length by omega)))
theorem Held.setBel {W : World} {B : Nat} {zs : List Int} {y : Value} (h : Held W B zs y) (i : Nat) (u : Value) : Held (W.setCell ⟨B, i, none⟩ u) B zs y := h.keep fun g c hg hh => blk_far hh (by show g ≠ B; omega) u
theorem Held.get {W : World} {B : Nat} {zs : List Int} {g n c : Nat} (h : Held W B zs (.slice (some ⟨g, 0, none⟩) n c)) {t : Nat} (ht : t < zs.length) : W.cell? ⟨g, t, none⟩ = some (.int .i64 zs[t]) := by
  rcases h with ⟨_, h⟩ | ⟨g', cap, cells, h1, _, _, _, hb, hc⟩
  · cases h
  · injection h1 with h1
    injection h1 with h1
    injection h1 with h1
    subst h1
    rw [blk_cell hb t, hc t ht]
theorem takeS_le (s : ByteArray) (n : Int) : (takeS s n).size ≤ s.size := by
  unfold takeS
  rw [ByteArray.size_extract]
  omega
theorem doneT_not {col : List ByteArray} {kk t : Nat} (hk : kk < (sortD col).length) (ht : t < (colItems col (sortD col)[kk]).length) {i : Nat} (hi : i < col.length) (he : (colItems col (sortD col)[kk])[t] = (i : Int)) (hc : col[i] = (sortD col)[kk]) : doneT col kk ((colItems col (sortD col)[kk]).take t) i = false := by
  unfold doneT
  rw [col_getD hi, hc, posN_at (asc_sortD col) hk]
  rw [Bool.or_eq_false_iff]
  refine ⟨by simp, ?_⟩
  rw [← Bool.not_eq_true, List.contains_iff_mem]
  intro h
  obtain ⟨a, ha, e⟩ := List.getElem_of_mem h
  rw [List.getElem_take] at e
  have ha' : a < t := by simp at ha; omega
  have := items_inj (show a < (colItems col (sortD col)[kk]).length by omega) ht (e.trans he.symm)
  omega
end Go.Proofs.YtejmlkfdkodabaaDoor
