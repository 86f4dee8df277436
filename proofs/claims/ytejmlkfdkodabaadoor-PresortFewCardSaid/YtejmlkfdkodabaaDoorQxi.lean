/- Texts of one proof put together. letterbaglaw25.made: a scheme and a mailing for any numbers. presort.merge: two tables together. slices.Backward at numbers: the iterator's contract. Blocks whose cells are known one by one; rows held beyond a block, in a world that only that block parts from the first. A region that draws its order, in the round of a loop over a function: what is shown of it outside of a round serves. presort.share's two closures: what a group saves itself; whether a subgroup can pass on so many. The program's presort.Valid, with groups. -/
import Derived.Test.YtejmlkfdkodabaaDoorQxh
import Derived.Deep.RegionWith
import Derived.Deep.DeepCutAuto
import Derived.Test.YtejmlkfdkodabaaDoorQxb
import Derived.RangeFuncNested
import Derived.RangeFuncBound
import Derived.RangeFuncCalls
import Derived.RangeFuncLeaves
import Derived.Shelf.Abstract
import Derived.Shelf.RegionOpen
import Derived.OwnWalkIn
import Derived.TacticsInMore
import Derived.LoopNIn
import Derived.LoopIn
import Derived.OrdersHeld
import Derived.OrdersIn
import Derived.Deep.RegionHeld3
import Derived.Test.YtejmlkfdkodabaaDoorQxf
namespace Go.Proofs.YtejmlkfdkodabaaDoor
open Go.RowKit LB Go.Maps Go.Proofs.YtejmlkfdkodabaaDoorW.PrintWords

def lowS (least : List Int) : List Int := (least.take 3).map (· % 8)
theorem low_next {xs : List Int} {k : Nat} (h : k < xs.length) : (xs.take (k + 1)).map (· % 8) = (xs.take k).map (· % 8) ++ [xs[k] % 8] := by
  rw [List.take_succ_eq_append_getElem h, List.map_append]; rfl
def Bytes (xs : List Int) : Prop := ∀ x ∈ xs, 0 ≤ x ∧ x < 256
theorem low_ok {least cents : List Int} (h : Bytes least) (h' : Bytes cents) : NumsOk (lowS least) cents := by
  refine ⟨fun x hx => ?_, h'⟩
  obtain ⟨y, hy, rfl⟩ := List.mem_map.1 hx
  have := h y (List.mem_of_mem_take hy)
  show 0 ≤ y % 8 ∧ y % 8 < 256
  omega
theorem infoU8 : (Tryd.prog.info? 5).map (fun i => (i.zero, i.size, i.bytes)) = some (some (.int .u8 0), 1, 1) := by kernel_rfl
def codesL (l : List Int) (most : Nat) : List ByteArray := (l.take most).map codeS5
/-- What made returns. -/
def MadePost (ls : List Level) (cs : List ByteArray) (w : World) (e : Ending) (w' : World) : Prop :=
  (∃ A c A2 c2, e = .returned (.tuple #[.slice A ls.length c, .agg #[.int .u8 1, .int .u8 1, .string z10000, .slice A2 cs.length c2]]) ∧ Kd.R kLevel 41 w' w.heap.size (fun _ => True) (.slice A ls.length c) ls ∧ Kd.R kPiece 57 w' w.heap.size (fun _ => True) (.slice A2 cs.length c2) (pcs 0 cs)) ∧ Below w.heap.size w w'
theorem made_end {w WE : World} {ls : List Level} {cs : List ByteArray} {A1 A3 : Option Addr} {c1 c3 : Nat} (hb : Below w.heap.size w WE) (hX : WE.heap[w.heap.size]? = some (.cells #[.int .u8 0, .int .u8 0, .string ⟨#[]⟩, .slice none 0 0] 28 (0, 0)))
    (h1 : Kd.R kLevel 41 WE (w.heap.size + 1) (fun _ => True) (.slice A1 ls.length c1) ls) (h3 : Kd.R kPiece 57 WE (w.heap.size + 1) (fun _ => True) (.slice A3 cs.length c3) (pcs 0 cs)) :
    ((((WE.setCell ⟨w.heap.size, 0, none⟩ (.int .u8 1)).setCell ⟨w.heap.size, 1, none⟩ (.int .u8 1)).setCell ⟨w.heap.size, 2, none⟩ (.string z10000)).setCell ⟨w.heap.size, 3, none⟩ (.slice A3 cs.length c3)).heap[w.heap.size]? = some (.cells #[.int .u8 1, .int .u8 1, .string z10000, .slice A3 cs.length c3] 28 (0, 0)) ∧
    MadePost ls cs w (.returned (.tuple #[.slice A1 ls.length c1, .agg #[.int .u8 1, .int .u8 1, .string z10000, .slice A3 cs.length c3]])) ((((WE.setCell ⟨w.heap.size, 0, none⟩ (.int .u8 1)).setCell ⟨w.heap.size, 1, none⟩ (.int .u8 1)).setCell ⟨w.heap.size, 2, none⟩ (.string z10000)).setCell ⟨w.heap.size, 3, none⟩ (.slice A3 cs.length c3)) := by
  have hl : ∀ (q : Nat), (⟨w.heap.size, q, none⟩ : Addr).block < w.heap.size + 1 := fun q => Nat.lt_succ_self _
  refine ⟨blk_put (blk_put (blk_put (blk_put hX 0 (.int .u8 1) rfl) 1 (.int .u8 1) rfl) 2 (.string z10000) rfl) 3 _ rfl, ⟨A1, c1, A3, c3, rfl, Kd.R_lower (far_base (far_base (far_base (far_base h1 (hl 0) _) (hl 1) _) (hl 2) _) (hl 3) _) (Nat.le_succ _), Kd.R_lower (far_base (far_base (far_base (far_base h3 (hl 0) _) (hl 1) _) (hl 2) _) (hl 3) _) (Nat.le_succ _)⟩, ?_⟩
  exact below_set (below_set (below_set (below_set hb (Nat.le_refl _)) (Nat.le_refl _)) (Nat.le_refl _)) (Nat.le_refl _)
set_option maxHeartbeats 4000000 in
set_option maxRecDepth 100000 in
theorem made25_any (n : Int) (least cents l : List Int) (most : Nat) (Al Ac Ad : Option Addr) (cl cc cd : Nat) (w : World) (hn0 : 0 ≤ n) (hn1 : n < 4294967296)
    (hL : Kd.C (Kd.int .u8) w Al least.length least) (hC : Kd.C (Kd.int .u8) w Ac cents.length cents) (hD : Kd.C (Kd.int .u8) w Ad l.length l) (hcd : l.length ≤ cd) (bL : Bytes least) (bC : Bytes cents) (bD : Bytes l) (hm : most ≤ 2000) :
    Calls Tryd.prog 11 #[.int .u32 n, .slice Al least.length cl, .slice Ac cents.length cc, .slice Ad l.length cd, .int .i64 (most : Int)] w (MadePost (madeS (bM n) (lowS least) cents) (codesL l most) w) := by
  have hll : least.length ≤ 9223372036854775807 := hL.2.1
  have hdl : l.length ≤ 9223372036854775807 := hD.2.1
  have HL := hid_ hL
  have HC := hid_ hC
  have HD := hid_ hD
  have HBL := hid_ bL
  have HNO := hid_ (low_ok bL bC)
  have HBD := hid_ bD
  have HR0 : Hid (Kd.R (Kd.int .u8) 5 ((w.alloc (.cells #[.int .u8 0, .int .u8 0, .string ⟨#[]⟩, .slice none 0 0] 28)).alloc (.cells (madeCells #[.int .u8 0] 3) 5)) (w.heap.size + 1) (fun _ => True) (.slice (some ⟨w.heap.size + 1, 0, none⟩) 0 3) []) := by
    have h := row_room (Kd.int .u8) (w.alloc (.cells #[.int .u8 0, .int .u8 0, .string ⟨#[]⟩, .slice none 0 0] 28)) (w.heap.size + 1) 5 (madeCells #[.int .u8 0] 3) 3 (by simp) (by rw [size_madeCells]; rfl) (by unfold maxLen; omega)
    rw [show (w.alloc (.cells #[.int .u8 0, .int .u8 0, .string ⟨#[]⟩, .slice none 0 0] 28)).heap.size = w.heap.size + 1 from by simp] at h
    exact h
  have hmk : ∀ W : World, (Instr.makeSlice 23 (.int .i64 0) (.int .i64 3)).run Tryd.prog W = .ok (.slice (some ⟨W.heap.size, 0, none⟩) 0 3) (W.alloc (.cells (madeCells #[.int .u8 0] 3) 5)) := fun W =>
    run_room (P := Tryd.prog) 23 5 (.int .u8 0) 1 1 Tryd.underlying23 infoU8 3 (by omega) (by omega) W
  clear hL hC hD bL bC bD
  go_enter Tryd.func11, Tryd.ntmps11
  go_upto_block 0 with (fail)
  go_cut [12, 13] (fun v _ wx => ∃ ys : List Int, Hid (Below w.heap.size w wx) ∧ Hid (wx.heap[w.heap.size]? = some (.cells #[.int .u8 0, .int .u8 0, .string ⟨#[]⟩, .slice none 0 0] 28 (0, 0))) ∧ Hid (Kd.R (Kd.int .u8) 5 wx (w.heap.size + 1) (fun _ => True) v ys) ∧ Hid (ys = lowS least))
  case first =>
    go_wp2
    go_loopw [12, 13] (fun v i wr => ∃ (k : Nat) (ys : List Int), k ≤ least.length ∧ k ≤ 3 ∧ i = .int .i64 k ∧ Hid (Below w.heap.size w wr) ∧ Hid (wr.heap[w.heap.size]? = some (.cells #[.int .u8 0, .int .u8 0, .string ⟨#[]⟩, .slice none 0 0] 28 (0, 0))) ∧ Hid (Kd.R (Kd.int .u8) 5 wr (w.heap.size + 1) (fun _ => True) v ys) ∧ Hid (ys = (least.take k).map (· % 8))) (fun _ i _ => 3 - (intOf i).toNat)
    case atStart => exact ⟨0, [], Nat.zero_le _, by omega, rfl, below_alloc (below_alloc (Below.refl _ _) _) _, blk_below (blk_new _ _) (below_alloc (Below.refl _ _) _), HR0.out, rfl⟩
    case round =>
      obtain ⟨k, ys, hk, hk3, rfl, hB, hX, hR, hY⟩ := hrel
      obtain ⟨Av, cv, rfl⟩ := Kd.R_slice hR.out
      have hyl : ys.length ≤ 3 := by rw [hY.out, List.length_map, List.length_take]; omega
      have hxl := blk_lt hX.out
      by_cases hlt : k < least.length ∧ k < 3
      · obtain ⟨h1, h2⟩ := hlt
        obtain ⟨g, o, rfl, _, hg, x0⟩ := atInt HL.out hB.out k h1
        obtain ⟨hr0, hr1⟩ := HBL.out least[k] (List.getElem_mem h1)
        have HN := hid_ ((low_next h1).trans (by rw [← hY.out]))
        generalize least[k] = x at *
        have h1I : (k : Int) < (least.length : Int) := by omega
        have h2I : (k : Int) < 3 := by omega
        go_wp2_with (at_builtin; refine Kd.R_append (Kd.int .u8) (w0 := wr) (w.heap.size + 1) rfl (.tmp 25) (.tmp 31) 23 5 (.int .u8 0) 1 rfl Tryd.underlying23 infoU8 rfl (by decide) (by decide) _ ys (x % 8) [.int .u8 (x % 8)] (fun _ => True) (fun _ => False) rfl rfl rfl (fun _ hk => hk.elim) (fun _ _ => trivial) hR.out (Below.refl _ _) (by omega) (by omega) ?_; intro v3 w3 hR3 hb3 hg3 _; obtain ⟨A3, c3, rfl⟩ := Kd.R_slice hR3; rw [List.length_append, List.length_singleton] at hR3; have HR3 := hid_ hR3; have HX3 := hid_ (hb3.block w.heap.size (Nat.lt_succ_self _) |>.trans hX.out); have HB3 := hid_ (hB.out.trans (hb3.mono (Nat.le_succ _))); clear hR3 hb3 hg3)
        go_roundw
        case rel => exact ⟨k + 1, _, by omega, by omega, by go_num, HB3.out, HX3.out, HR3.out, HN.out.symm⟩
        case measure => simp [intOf]; omega
      · have HYL : Hid (ys = lowS least) := by
          rw [Hid, hY.out]
          unfold lowS
          congr 1
          by_cases e : k = 3
          · rw [e]
          · rw [List.take_of_length_le (show least.length ≤ k by omega), List.take_of_length_le (show least.length ≤ 3 by omega)]
        by_cases h1 : k < least.length
        · have h1I : (k : Int) < (least.length : Int) := by omega
          have h2I : ¬ ((k : Int) < 3) := by omega
          go_wp2
          go_meet
          case rel => exact ⟨ys, hB.out, hX.out, hR.out, HYL.out⟩
        · have h1I : ¬ ((k : Int) < (least.length : Int)) := by omega
          go_wp2
          go_meet
          case rel => exact ⟨ys, hB.out, hX.out, hR.out, HYL.out⟩
  case rest =>
    obtain ⟨ys, hB, hX, hR, hY⟩ := hcut
    obtain ⟨Av, cv, rfl⟩ := Kd.R_slice hR.out
    obtain ⟨W0, rfl⟩ : ∃ W0 : World, W0 = wc := ⟨_, rfl⟩
    have hyl : ys.length ≤ 3 := by rw [hY.out]; unfold lowS; rw [List.length_map, List.length_take]; omega
    have hxl := blk_lt hX.out
    have B0 := hid_ (below_drew (Below.refl W0.heap.size W0))
    obtain ⟨_, hyc, hyC⟩ := Kd.R_reads' hR.out
    have HYC := hid_ hyC
    have HM := hid_ (fun (W : World) (hW : Below W0.heap.size W0 W) => made23_any n ys cents Av Ac cv cc W hn0 hn1 (Kd.C_below HYC.out hW) (Kd.C_below HC.out (below_step hB.out hW)) (by rw [hY.out]; exact HNO.out))
    have hcut2 : Kd.C (Kd.int .u8) w Ad (l.take most).length (l.take most) := C_take (ys := l.drop most) (by rw [List.take_append_drop]; exact HD.out)
    have HCO : Hid (∀ W : World, Below W0.heap.size W0 W → Calls Tryd.prog 26 #[.slice Ad (min (l.length : Int) (most : Int)).toNat cd] W (StrsPost (codesL l most) W)) := fun W hW => by
      have e : (min (l.length : Int) (most : Int)).toNat = (l.take most).length := by rw [List.length_take]; omega
      rw [e]
      exact codes5_any (l.take most) Ad cd W (Kd.C_below hcut2 (below_step hB.out hW)) (fun x hx => HBD.out x (List.mem_of_mem_take hx)) (by rw [List.length_take]; omega)
    have HML := hid_ (fun (W : World) (A : Option Addr) (cx : Nat) (hW : Kd.C Kd.string W A (codesL l most).length (codesL l most)) => mail25R_any (codesL l most) A cx W hW (by unfold codesL; rw [List.length_map, List.length_take]; omega))
    clear hyC hyc hcut2
    go_wp2
    go_region_with (first
      | (go_at_call 25; ((with_reducible refine (HM.out _ (by first | exact B0.out | exact below_step B0.out HBC.out | exact below_step (below_step B0.out HBC.out) HBL.out)).mono ?_); rintro e w1 ⟨⟨A1, c1, rfl, hr1⟩, hb1⟩; have HR1 := hid_ hr1; have HBM := hid_ hb1; have HW1 : Hid (Below W0.heap.size W0 w1) := (by first | exact below_step B0.out HBM.out | exact below_step (below_step B0.out HBC.out) HBM.out | exact below_step (below_step (below_step B0.out HBC.out) HBL.out) HBM.out); have HX1 := hid_ (blk_below hX.out HW1.out); have y10 := boxAt HX1.out 0 rfl; have y11 := boxAt HX1.out 1 rfl; have y12 := boxAt HX1.out 2 rfl; have y13 := boxAt HX1.out 3 rfl; have q10 := blk_frozen HX1.out 0; have q11 := blk_frozen HX1.out 1; have q12 := blk_frozen HX1.out 2; have q13 := blk_frozen HX1.out 3; clear hr1 hb1))
      | (go_at_call 26; ((with_reducible refine (HCO.out _ (by first | exact B0.out | exact below_step B0.out HBM.out)).mono ?_); rintro e w2 ⟨⟨A2, c2, rfl, hr2⟩, hb2⟩; have HR2 := hid_ hr2; have HBC := hid_ hb2; clear hr2 hb2))
      | (go_at_call 23; ((with_reducible refine (HML.out _ A2 c2 (by first | exact HR2.out | exact Kd.C_below HR2.out HBM.out)).mono ?_); rintro e w3 ⟨⟨A3, c3, rfl, hr3⟩, hb3⟩; have HR3 := hid_ hr3; have HBL := hid_ hb3; have HW3 : Hid (Below W0.heap.size W0 w3) := (by first | exact below_step HW1.out HBL.out | exact below_step (below_step HW1.out HBC.out) HBL.out | exact below_step (below_step B0.out HBC.out) HBL.out); have HX3 := hid_ (blk_below hX.out HW3.out); have y30 := boxAt HX3.out 0 rfl; have y31 := boxAt HX3.out 1 rfl; have y32 := boxAt HX3.out 2 rfl; have y33 := boxAt HX3.out 3 rfl; have q30 := blk_frozen HX3.out 0; have q31 := blk_frozen HX3.out 1; have q32 := blk_frozen HX3.out 2; have q33 := blk_frozen HX3.out 3; clear hr3 hb3)))
    all_goals
      go_wp2
      have hs0 := HW1.out.size
      have hs3 := HW3.out.size
      have hsx : W0.heap.size ≤ W0.drew.heap.size := Nat.le_refl _
      rw [hY.out] at HR1
      first
        | (have hE := made_end (below_step hB.out HW3.out) HX3.out (Kd.R_lower (Kd.R_below HR1.out HBL.out) (by have := HBC.out.size; omega)) (Kd.R_lower HR3.out (by omega))
           rw [hY.out]
           refine bodyPost_ret (results_tc rfl _ _ w.heap.size _ _ _ _ rfl hE.1 Tryd.underlying28 rfl (by kernel_rfl)) rfl ?_
           exact hE.2)
        | (have hE := made_end (below_step hB.out HW3.out) HX3.out (Kd.R_lower (Kd.R_below (Kd.R_below HR1.out HBC.out) HBL.out) (by omega)) (Kd.R_lower HR3.out (by have := HBC.out.size; omega))
           rw [hY.out]
           refine bodyPost_ret (results_tc rfl _ _ w.heap.size _ _ _ _ rfl hE.1 Tryd.underlying28 rfl (by kernel_rfl)) rfl ?_
           exact hE.2)
        | (have hE := made_end (below_step hB.out HW1.out) HX1.out (Kd.R_lower HR1.out (by have := HBC.out.size; have := HBL.out.size; omega)) (Kd.R_lower (Kd.R_below HR3.out HBM.out) (by have := HBC.out.size; omega))
           rw [hY.out]
           refine bodyPost_ret (results_tc rfl _ _ w.heap.size _ _ _ _ rfl hE.1 Tryd.underlying28 rfl (by kernel_rfl)) rfl ?_
           exact hE.2)
end Go.Proofs.YtejmlkfdkodabaaDoor
namespace Go.Proofs.YtejmlkfdkodabaaDoor
open Go.RowKit LB Go.Maps Go.Sort Go.ChangeShapes Go.Proofs.YtejmlkfdkodabaaDoorW.PrintWords

set_option maxHeartbeats 2000000 in
set_option maxRecDepth 100000 in
/-- presort.merge. -/
theorem merge_any (a b : List Int) (A A2 : Option Addr) (c c2 : Nat) (w : World) (M : Int) (hA : Kd.C (Kd.int .i64) w A a.length a) (hB : Kd.C (Kd.int .i64) w A2 b.length b) (ha : Okt a) (hb : Okt b) (hM : Most M a) (hM2 : Most M b) (hM0 : 0 ≤ M) (hM1 : M ≤ 1000000000000000)
    (h2 : 2 ≤ a.length + b.length) (h3 : a.length ≤ 100000) (h4 : b.length ≤ 100000) :
    Calls Tryd.prog 55 #[.slice A a.length c, .slice A2 b.length c2] w fun e w' => (∃ B cc, e = .returned (.slice (some ⟨B, 0, none⟩) (mergeS a b).length cc) ∧ (mergeS a b).length ≤ cc ∧ w.heap.size ≤ B ∧ BelIs w' B (mergeS a b).length (tat (mergeS a b))) ∧ Below w.heap.size w w' := by
  have hlen : (mergeS a b).length = a.length + b.length - 1 := mergeS_len a b
  have HEND : Hid (∀ i, i < a.length + b.length - 1 → mergeF a b a.length i = tat (mergeS a b) i) := fun i hi => by rw [mergeS, tat_range hi]
  rw [hlen]
  clear hlen
  have HB0 := hid_ ((Below.refl w.heap.size w).alloc (Nat.le_refl _) (.cells #[.int .i64 (-1)] 3))
  have HREP := hid_ (repeat_any (-1) (some ⟨w.heap.size, 0, none⟩) 1 (a.length + b.length - 1) _ (lit_one w (-1)) (by omega) (by omega))
  rw [show ((a.length + b.length - 1 : Nat) : Int) = (a.length : Int) + (b.length : Int) - 1 from by omega] at HREP
  have HA := hid_ hA
  have HB := hid_ hB
  have HGA : Hid (∀ k (h : k < a.length), -1 ≤ a[k] ∧ a[k] ≤ M ∧ tat a k = a[k]) := fun k h => ⟨ha _ (List.getElem_mem h), hM _ (List.getElem_mem h), tat_get h⟩
  have HGB : Hid (∀ k (h : k < b.length), -1 ≤ b[k] ∧ b[k] ≤ M ∧ tat b k = b[k]) := fun k h => ⟨hb _ (List.getElem_mem h), hM2 _ (List.getElem_mem h), tat_get h⟩
  clear hA hB ha hb hM hM2
  go_enter Tryd.func55, Tryd.ntmps55
  go_wp2_with (go_at_call 53; refine HREP.out.mono ?_; rintro e w1 ⟨⟨B, cc, rfl, hcc, hBB, hbel⟩, hb1⟩; have HB1 := hid_ (below_then HB0.out HB0.out.size hb1); have hB2 := Nat.le_trans HB0.out.size hBB; have HBEL := hid_ hbel; clear hb1 hbel)
  go_loopw [20] (fun i wr => ∃ k : Nat, k ≤ a.length ∧ i = .int .i64 k ∧ Hid (Below w.heap.size w wr) ∧ Hid (BelIs wr B (a.length + b.length - 1) (mergeF a b k))) (fun i _ => a.length - (intOf i).toNat)
  case atStart => exact ⟨0, Nat.zero_le _, rfl, HB1.out, HBEL.out⟩
  case round =>
    obtain ⟨wo, rfl⟩ : ∃ wo : World, wo = wr := ⟨_, rfl⟩
    obtain ⟨k, hk, rfl, hb, hT⟩ := hrel
    by_cases hlt : k < a.length
    · obtain ⟨g, o, rfl, hg, _, c0⟩ := atInt HA.out hb.out k hlt
      obtain ⟨hx1, hx2, hx3⟩ := HGA.out k hlt
      by_cases hx : tat a k = -1
      · have HX : Hid (mergeF a b (k + 1) = mergeF a b k) := by rw [Hid, mergeF, if_pos hx]
        rw [hx3] at hx
        rw [hx] at c0
        clear hx hx1 hx2 hx3
        go_wp2
        go_roundw
        case rel => exact ⟨k + 1, by omega, by go_num, hb.out, by rw [HX.out]; exact hT.out⟩
        case measure => simp [intOf]; omega
      · have HX : Hid (mergeF a b (k + 1) = rowF (tat a k) b k (mergeF a b k) b.length) := by rw [Hid, mergeF, if_neg hx]
        have HS : Hid (rowF (tat a k) b k (mergeF a b k) 0 = mergeF a b k) := rfl
        rw [hx3] at hx HX HS
        generalize a[k] = x at c0 hx hx1 hx2 HX HS
        have d1 : (x == (-1 : Int)) = false := by simpa using hx
        clear hx hx3
        go_wp2
        go_loopw [29] (fun i wr => ∃ q : Nat, q ≤ b.length ∧ i = .int .i64 q ∧ Hid (Below w.heap.size w wr) ∧ Hid (BelIs wr B (a.length + b.length - 1) (rowF x b k (mergeF a b k) q))) (fun i _ => b.length - (intOf i).toNat)
        case atStart => exact ⟨0, Nat.zero_le _, rfl, hb.out, by rw [HS.out]; exact hT.out⟩
        case round =>
          obtain ⟨q, hq, rfl, hb2, hT2⟩ := hrel
          by_cases hlt2 : q < b.length
          · obtain ⟨g2, o2, rfl, hg2, _, c2⟩ := atInt HB.out hb2.out q hlt2
            obtain ⟨hy1, hy2, hy3⟩ := HGB.out q hlt2
            by_cases hy : tat b q = -1
            · have HY : Hid (rowF x b k (mergeF a b k) (q + 1) = rowF x b k (mergeF a b k) q) := by rw [Hid, rowF, if_pos hy]
              rw [hy3] at hy
              rw [hy] at c2
              clear hy hy1 hy2 hy3
              go_wp2
              go_roundw
              case rel => exact ⟨q + 1, by omega, by go_num, hb2.out, by rw [HY.out]; exact hT2.out⟩
              case measure => simp [intOf]; omega
            · have HY : Hid (rowF x b k (mergeF a b k) (q + 1) = fun j => if j = k + q then max (rowF x b k (mergeF a b k) q (k + q)) (x + tat b q) else rowF x b k (mergeF a b k) q j) := by rw [Hid, rowF, if_neg hy]
              rw [hy3] at hy HY
              generalize b[q] = y at c2 hy hy1 hy2 HY
              have d2 : (y != (-1 : Int)) = true := by simpa using hy
              obtain ⟨t1, t2⟩ := hT2.out.get (show k + q < a.length + b.length - 1 by omega)
              have HT3 := hid_ (hT2.out.set (show k + q < a.length + b.length - 1 by omega) (max (rowF x b k (mergeF a b k) q (k + q)) (x + y)))
              rw [← HY.out] at HT3
              clear hy hy3 HY
              generalize rowF x b k (mergeF a b k) q (k + q) = z at t1 HT3
              go_wp2
              go_roundw
              case rel => exact ⟨q + 1, by omega, by go_num, below_set hb2.out hB2 , HT3.out⟩
              case measure => simp [intOf]; omega
          · have hqe : q = b.length := by omega
            subst hqe
            go_wp2
            go_roundw
            case rel => exact ⟨k + 1, by omega, by go_num, hb2.out, by rw [HX.out]; exact hT2.out⟩
            case measure => simp [intOf]; omega
    · have hke : k = a.length := by omega
      subst hke
      have HT9 := hid_ (hT.out.congr HEND.out)
      go_wp2
      go_ret
      exact ⟨⟨B, cc, rfl, hcc, hB2, HT9.out⟩, hb.out⟩
end Go.Proofs.YtejmlkfdkodabaaDoor
namespace Go.Proofs.YtejmlkfdkodabaaDoor
open Go.RowKit LB Go.Maps Go.Sort Go.ChangeShapes Go.Shelf Go.Proofs.YtejmlkfdkodabaaDoorW.PrintWords
attribute [local go_sem] Oper.semAt_some

/-- What has come when k rounds are over. -/
def uptoB (zs : List Int) (k : Nat) : List (Nat × Int) := (List.range k).map fun j => (zs.length - 1 - j, zs.getD (zs.length - 1 - j) 0)
theorem uptoB_succ (zs : List Int) (k : Nat) : uptoB zs (k + 1) = uptoB zs k ++ [(zs.length - 1 - k, zs.getD (zs.length - 1 - k) 0)] := by simp [uptoB, List.range_succ]
theorem uptoB_length (zs : List Int) (k : Nat) : (uptoB zs k).length = k := by simp [uptoB]
abbrev Pair (zs : List Int) := { x : Nat × Int // x.1 < zs.length ∧ x.2 = zs.getD x.1 0 }
theorem backward_any (A : Option Addr) (n c : Nat) (w : World) : Calls Tryd.prog 54 #[.slice A n c] w fun e w' => e = .returned (.func (.func 77) #[] #[.pointer (some ⟨w.heap.size, 0, none⟩)]) ∧ w.alloc (.cells #[.slice A n c] 38) = w' := by
  go_enter Tryd.func54, Tryd.ntmps54
  go_wp2
  go_ret
  exact ⟨rfl, rfl⟩
set_option maxRecDepth 100000 in
set_option maxHeartbeats 2000000 in
theorem backward1_in (F : Fence) (n : Nat) (hF : F.fn 77) (hro : F.round = none) (hn : 1 ≤ n) (l Bs b c : Nat) (zs : List Int) (hm : zs.length ≤ 1000000) (Kp : World → World → Prop) (hK : ∀ A B, Kp A B → B.heap[Bs]? = A.heap[Bs]? ∧ B.heap[b]? = A.heap[b]?) (J Jx : List (Pair zs) → World → Prop)
    (hY : ∀ pre x W, J pre W → pre.length < zs.length → YieldAt F (n - 1) Tryd.prog l #[.int .i64 (x.1.1 : Int), .int .i64 x.1.2] W fun e W' =>
      (e = .returned (.bool true) ∧ J (pre ++ [x]) W' ∧ Kp W W') ∨ (e = .returned (.bool false) ∧ Jx (pre ++ [x]) W'))
    (W : World) (hBs : W.heap[Bs]? = some (.cells #[.slice (some ⟨b, 0, none⟩) zs.length c] 38 (0, 0))) (hb : BelIs W b zs.length (fun i => zs.getD i 0)) (h0 : J [] W) :
    CallsIn F n Tryd.prog 77 #[.func (.yield l) #[] #[], .pointer (some ⟨Bs, 0, none⟩)] W fun e W' => (∃ v, e = .returned v) ∧
      ((∃ ys : List (Pair zs), ys.map (·.1) = uptoB zs zs.length ∧ J ys W') ∨ (∃ pre : List (Pair zs), True ∧ Jx pre W')) := by
  refine callsIn_of_wp Tryd.func77 rfl hF ?_ hro
  simp only [Tryd.ntmps77, List.size_toArray, List.length_cons, List.length_nil, Nat.reduceAdd, Nat.reduceSub, Array.replicate_succ, Array.replicate_zero, List.push_toArray, List.append_toArray, List.nil_append, List.cons_append]
  have hc0 := boxAt hBs 0 rfl
  have HBs := hid_ hBs
  have Hb := hid_ hb
  clear hBs hb
  gi_wp2
  gi_loopw [3] (fun i wr => ∃ k : Nat, k ≤ zs.length ∧ i = .int .i64 ((zs.length : Int) - 1 - k) ∧ (∃ ys : List (Pair zs), ys.map (·.1) = uptoB zs k ∧ J ys wr) ∧ Hid (wr.heap[Bs]? = some (.cells #[.slice (some ⟨b, 0, none⟩) zs.length c] 38 (0, 0))) ∧ Hid (BelIs wr b zs.length (fun i => zs.getD i 0)))
    (fun i _ => (intOf i + 1).toNat)
  case atStart => exact ⟨0, Nat.zero_le _, by simp, ⟨[], rfl, h0⟩, HBs.out, Hb.out⟩
  case round =>
    obtain ⟨k, hk, rfl, ⟨ys, hys, hJs⟩, hB1, hB2⟩ := hrel
    have hc1 := boxAt hB1.out 0 rfl
    by_cases hlt : k < zs.length
    · obtain ⟨q, HQ⟩ : ∃ q : Nat, Hid (zs.length = k + 1 + q) := ⟨zs.length - 1 - k, by rw [Hid]; omega⟩
      have hql : q < zs.length := by have := HQ.out; omega
      have HQI : Hid ((zs.length : Int) - 1 - k = (q : Int)) := by have := HQ.out; rw [Hid]; omega
      have HQN : Hid (zs.length - 1 - k = q) := by have := HQ.out; rw [Hid]; omega
      obtain ⟨g1, g2⟩ := hB2.out.get hql
      have hyl : ys.length < zs.length := by
        have := congrArg List.length hys
        rw [List.length_map, uptoB_length] at this
        omega
      obtain ⟨fn, tmps, assign, body, hy, hR⟩ := hY _ ⟨(q, zs.getD q 0), hql, rfl⟩ wr hJs hyl
      dsimp only at hy
      have he : zs.getD q 0 = zs[q] := by rw [List.getD_eq_getElem?_getD, List.getElem?_eq_getElem hql]; rfl
      rw [he] at hy g1
      clear he
      rw [HQI.out]
      gi_wp2
      refine hR.mono ?_
      rintro e W3 (⟨rfl, hJ3, hk3⟩ | ⟨rfl, hJx3⟩)
      · obtain ⟨k1, k2⟩ := hK _ _ hk3
        have hB3 := hid_ (k1.trans hB1.out)
        have hB4 : Hid (BelIs W3 b zs.length (fun i => zs.getD i 0)) := by
          obtain ⟨cells, e1, e2, e3⟩ := hB2.out
          exact ⟨cells, k2.trans e1, e2, e3⟩
        gi_wp2
        go_roundw
        case rel => exact ⟨k + 1, by omega, by have := HQ.out; go_num, ⟨_, by rw [List.map_append, hys, uptoB_succ, HQN.out]; rfl, hJ3⟩, hB3.out, hB4.out⟩
        case measure => simp [intOf]
      · gi_wp2
        refine bodyPost_ret (results_none rfl _ _ _) rfl ?_
        exact ⟨⟨_, rfl⟩, .inr ⟨_, trivial, hJx3⟩⟩
    · obtain rfl : k = zs.length := by omega
      gi_wp2
      go_end0
      exact ⟨⟨_, rfl⟩, .inl ⟨_, hys, hJs⟩⟩
theorem backward_stops (F : Fence) (n : Nat) (hF : F.fn 77) (hro : F.round = none) (hn : 1 ≤ n) (Bs b c : Nat) (zs : List Int) (hm : zs.length ≤ 1000000) (Kp : World → World → Prop) (hK : ∀ A B, Kp A B → B.heap[Bs]? = A.heap[Bs]? ∧ B.heap[b]? = A.heap[b]?) (w : World)
    (hBs : w.heap[Bs]? = some (.cells #[.slice (some ⟨b, 0, none⟩) zs.length c] 38 (0, 0))) (hb : BelIs w b zs.length (fun i => zs.getD i 0)) :
    SeqStopsK F n Tryd.prog 77 #[.pointer (some ⟨Bs, 0, none⟩)] (fun x : Pair zs => #[Value.int .i64 (x.1.1 : Int), .int .i64 x.1.2]) Kp (fun ys => ys.map (·.1) = uptoB zs zs.length) (fun _ => True) zs.length w := fun l J Jx W hW _ _ hY h0 =>
  backward1_in F n hF hro hn l Bs b c zs hm Kp hK J Jx hY W (blk_below hBs hW) (hb.below hW) h0
end Go.Proofs.YtejmlkfdkodabaaDoor
namespace Go.Proofs.YtejmlkfdkodabaaDoor
open Go.RowKit LB Go.Maps Go.Sort Go.ChangeShapes Go.Proofs.YtejmlkfdkodabaaDoorW.PrintWords

theorem getI {zs : List Int} {i : Nat} (h : i < zs.length) : zs.getD i 0 = zs[i] := by rw [List.getD_eq_getElem?_getD, List.getElem?_eq_getElem h]; rfl
def BlkIs (W : World) (B : Nat) (ty : TypeId) (m : Nat) (f : Nat → Value) : Prop := ∃ cells, W.heap[B]? = some (.cells cells ty (0, 0)) ∧ m ≤ cells.size ∧ ∀ i, i < m → cells[i]? = some (f i)
section
variable {W : World} {B m : Nat} {ty : TypeId} {f : Nat → Value}
theorem BlkIs.get (h : BlkIs W B ty m f) {i : Nat} (hi : i < m) : W.cell? ⟨B, i, none⟩ = some (f i) ∧ W.frozen? ⟨B, i, none⟩ = false := by
  obtain ⟨cells, h1, h2, h3⟩ := h
  exact ⟨(blk_cell h1 i).trans (h3 i hi), blk_frozen h1 i⟩
theorem BlkIs.lt (h : BlkIs W B ty m f) : B < W.heap.size := by
  obtain ⟨cells, h1, _⟩ := h
  exact blk_lt h1
theorem BlkIs.set (h : BlkIs W B ty m f) {i : Nat} (hi : i < m) (v : Value) : BlkIs (W.setCell ⟨B, i, none⟩ v) B ty m (fun j => if j = i then v else f j) := by
  obtain ⟨cells, h1, h2, h3⟩ := h
  refine ⟨_, blk_put h1 i _ rfl, by simpa using h2, fun j hj => ?_⟩
  show _ = some (if j = i then v else f j)
  by_cases e : j = i
  · subst e
    rw [if_pos rfl, Array.getElem?_setIfInBounds_self_of_lt (by omega)]
  · rw [if_neg e, Array.getElem?_setIfInBounds_ne (Ne.symm e)]
    exact h3 j hj
theorem BlkIs.off (h : BlkIs W B ty m f) {a : Addr} (ha : a.block ≠ B) (u : Value) : BlkIs (W.setCell a u) B ty m f := by
  obtain ⟨cells, h1, h2, h3⟩ := h
  exact ⟨cells, (Below.heap_setCell W a u B (Ne.symm ha)).trans h1, h2, h3⟩
theorem BlkIs.below {W' : World} (h : BlkIs W B ty m f) (hB : Below W.heap.size W W') : BlkIs W' B ty m f := by
  obtain ⟨cells, h1, h2, h3⟩ := h
  exact ⟨cells, blk_below h1 hB, h2, h3⟩
theorem BlkIs.same {W' : World} (h : BlkIs W B ty m f) (e : W'.heap[B]? = W.heap[B]?) : BlkIs W' B ty m f := by
  obtain ⟨cells, h1, h2, h3⟩ := h
  exact ⟨cells, e.trans h1, h2, h3⟩
theorem BlkIs.congr {g : Nat → Value} (h : BlkIs W B ty m f) (e : ∀ i, i < m → f i = g i) : BlkIs W B ty m g := by
  obtain ⟨cells, h1, h2, h3⟩ := h
  exact ⟨cells, h1, h2, fun i hi => by rw [← e i hi]; exact h3 i hi⟩
end
theorem BelIs.same {W W' : World} {B m : Nat} {f : Nat → Int} (h : BelIs W B m f) (e : W'.heap[B]? = W.heap[B]?) : BelIs W' B m f := by
  obtain ⟨cells, h1, h2, h3⟩ := h
  exact ⟨cells, e.trans h1, h2, h3⟩
/-- A world in which of w's blocks B alone has turned. -/
theorem grown_same {w W : World} {B : Nat} (h : w.grownBy W (some B)) {k : Nat} (hk : k < w.heap.size) (hne : k ≠ B) : W.heap[k]? = w.heap[k]? := h.block k hk (fun e => hne (by injection e))
theorem grown_alloc {w W : World} {r : Option Nat} (h : w.grownBy W r) (o : Obj) : w.grownBy (W.alloc o) r := h.trans ((World.grownBy_alloc W o none).but _)
theorem grown_far {w W : World} {B : Nat} (h : w.grownBy W (some B)) {a : Addr} (ha : a.block = B ∨ w.heap.size ≤ a.block) (u : Value) : w.grownBy (W.setCell a u) (some B) := by
  refine ⟨h.os, h.tape, h.output, by simpa [World.setCell] using h.size, fun k hk hne => (Below.heap_setCell W a u k (fun e => ?_)).trans (h.block k hk hne)⟩
  rcases ha with e' | e'
  · exact hne (by rw [e, e'])
  · omega
theorem grown_then {w W W' : World} {B : Nat} (h : w.grownBy W (some B)) (hb : Below W.heap.size W W') : w.grownBy W' (some B) := h.trans ((grown_below hb).but _)
/-- Held rows in a world in which T alone has turned. -/
theorem Held.grown {w W : World} {T : Nat} {zs : List Int} {v : Value} (h : Held w T zs v) (hg : w.grownBy W (some T)) : Held W T zs v :=
  h.keep fun g cells hT hb => (grown_same hg (blk_lt hb) (by omega)).trans hb
theorem Held.reads {W : World} {T : Nat} {zs : List Int} {v : Value} (h : Held W T zs v) : ∃ A c, v = .slice A zs.length c ∧ zs.length ≤ c ∧ Kd.C (Kd.int .i64) W A zs.length zs ∧ zs.length ≤ 1000000 := by
  rcases h with ⟨rfl, rfl⟩ | ⟨g, cap, cells, rfl, h1, h2, _, hb, hcs⟩
  · exact ⟨none, 0, rfl, Nat.le_refl _, Kd.C_nil _ _, by simp⟩
  · exact ⟨_, _, rfl, h1, BelIs.reads (f := fun i => zs.getD i 0) ⟨cells, hb, by
      rcases Nat.lt_or_ge cells.size zs.length with h | h
      · have := hcs cells.size h
        rw [Array.getElem?_eq_none (Nat.le_refl _)] at this
        cases this
      · exact h, fun i hi => (hcs i hi).trans (congrArg (fun z => some (Value.int .i64 z)) (getI hi).symm)⟩ h2 (fun i hi => getI hi), h2⟩
theorem Held.bel {W : World} {T : Nat} {zs : List Int} {v : Value} (h : Held W T zs v) (hp : 0 < zs.length) : ∃ g cap, v = .slice (some ⟨g, 0, none⟩) zs.length cap ∧ zs.length ≤ cap ∧ zs.length ≤ 1000000 ∧ T < g ∧ BelIs W g zs.length (fun i => zs.getD i 0) := by
  rcases h with ⟨rfl, _⟩ | ⟨g, cap, cells, rfl, h1, h2, h3, hb, hcs⟩
  · simp at hp
  · refine ⟨g, cap, rfl, h1, h2, h3, cells, hb, ?_, fun i hi => (hcs i hi).trans (congrArg (fun z => some (Value.int .i64 z)) (getI hi).symm)⟩
    rcases Nat.lt_or_ge cells.size zs.length with h | h
    · have := hcs cells.size h
      rw [Array.getElem?_eq_none (Nat.le_refl _)] at this
      cases this
    · exact h
theorem held_of_bel {W : World} {T B c : Nat} {zs : List Int} {f : Nat → Int} (h : BelIs W B zs.length f) (hf : ∀ i (hi : i < zs.length), f i = zs[i]) (hT : T < B) (hc : zs.length ≤ c) (hm : zs.length ≤ 1000000) : Held W T zs (.slice (some ⟨B, 0, none⟩) zs.length c) := by
  obtain ⟨cells, h1, h2, h3⟩ := h
  exact .inr ⟨B, c, cells, rfl, hc, hm, hT, h1, fun j hj => by rw [h3 j hj, hf j hj]⟩
end Go.Proofs.YtejmlkfdkodabaaDoor
namespace Go.Proofs.YtejmlkfdkodabaaDoor
open Go

section
variable {P : Program} {l n : Nat}
theorem calls_round {f : FuncId} {args : Array Value} {w : World} {R : Ending → World → Prop} (h : Calls P f args w R) : CallsIn (Fence.wide.inRound l) n P f args w R :=
  CallsIn.inRound l (callsIn_wide.2 h)
theorem rows_round {row : String} {args : Array Value} {w : World} {R : Value → World → Prop} (h : Rows P row args w R) : RowsIn (Fence.wide.inRound l) n P row args w R :=
  fun c cs _ => let ⟨v, w', r, s⟩ := h c cs; ⟨v, w', r, stepsIn_wide.2 s⟩
theorem upon_round {o : Oper} {a : Act} {K : Act → World → Prop} {Q : Exit → Act → World → Prop} {r : Result Next} (h : o.upon P a K Q r) : o.uponIn (Fence.wide.inRound l) n P a K Q r := by
  have hd : (Fence.wide.inRound l).depth.isSome = true → 1 ≤ n := fun h => by simp [Fence.wide] at h
  cases r with
  | ok x w' =>
    cases x <;> simp only [Oper.upon, Oper.uponIn] at h ⊢ <;>
      first
        | exact h
        | exact ⟨hd, calls_round h⟩
        | exact ⟨hd, rows_round h⟩
        | exact h.elim
  | halt x w' => cases x <;> simp only [Oper.upon, Oper.uponIn] at h ⊢ <;> first | exact h | exact h.elim
theorem op_round {ops : Array Oper} {Q : Exit → Act → World → Prop} {i : Nat} {K K' : Act → World → Prop} {a : Act} {w : World} (hd : ∀ (j : Nat) (o : Oper) c, ops[j]? = some o → o.op ≠ .defer c) (hQ : ¬ LetsOut Q) (hK : ∀ a w, K a w → K' a w) (h : wpOp P ops Q i K a w) : wpOpIn (Fence.wide.inRound l) n P ops Q i K' a w := by
  refine wpOpIn_mono hK ?_
  unfold wpOp at h
  unfold wpOpIn
  cases ho : ops[i]? with
  | none => simp only [ho] at h ⊢; exact h
  | some o =>
    simp only [ho] at h ⊢
    split
    · rename_i hw
      simp only [hw, if_true] at h
      rcases h with h | h
      · refine ⟨fun f _ => trivial, ?_⟩
        rw [Oper.semAt_eq _ _ _ (fun c => hd i o c ho)]
        exact upon_round h
      · exact absurd h.2 hQ
    · rename_i hw
      simp only [hw] at h
      exact ⟨fun f _ => trivial, h⟩
theorem any_round {md : Region.Mode} {ops : Array Oper} {Q : Exit → Act → World → Prop} (hd : ∀ (j : Nat) (o : Oper) c, ops[j]? = some o → o.op ≠ .defer c) (hQ : ¬ LetsOut Q) :
    ∀ (fuel : Nat) (listed : Array Bool) (a : Act) (w : World), wpAny P md ops Q fuel listed a w → wpAnyIn (Fence.wide.inRound l) n P md ops Q fuel listed a w
  | 0, _, _, _, h => h
  | fuel + 1, _, _, _, h => ⟨h.1, fun i hi => op_round hd hQ (fun a w h => any_round hd hQ fuel _ a w h) (h.2 i hi)⟩
def noDefer (o : Oper) : Bool := match o.op with | .defer _ => false | _ => true
theorem region_round {id : Nat} {ops : Array Oper} {Q : Exit → Act → World → Prop} {S : World → Prop} {a : Act} {w : World} (hm : P.follows .mixedOrders = true) (hd : ops.all noDefer = true) (hQ : ¬ LetsOut Q) (hS : S w.drew)
    (h : S w.drew → wpAnyH P .any ops Q S ops.size (Array.replicate ops.size false) a w.drew) : (Code.region id ops true).wpIn (Fence.wide.inRound l) n P Q a w := by
  refine wpIn_region_any hm (any_round (fun j o c hj e => ?_) hQ _ _ _ _ (wpAny_of_held _ _ _ _ (h hS)))
  rw [Array.all_eq_true] at hd
  obtain ⟨hjl, rfl⟩ := Array.getElem?_eq_some_iff.1 hj
  have := hd j hjl
  unfold noDefer at this
  rw [e] at this
  cases this
end
end Go.Proofs.YtejmlkfdkodabaaDoor
namespace Go.Proofs.YtejmlkfdkodabaaDoor
open Go.RowKit LB Go.Maps Go.Sort Go.ChangeShapes Go.Shelf Go.Proofs.YtejmlkfdkodabaaDoorW.PrintWords

theorem int_ne {a b : Int} (h : a ≠ b) : (a != b) = true := by simpa using h
theorem int_eq_f {a b : Int} (h : a ≠ b) : (a == b) = false := by simpa using h
set_option maxHeartbeats 1000000 in
set_option maxRecDepth 100000 in
theorem saves_any (P m cP b5 b6 b7 i nL cL : Nat) (pf : Nat → Nat) (ln : ByteArray) (lp mn cents come : Int) (AL : Option Addr) (w : World)
    (h5 : w.heap[b5]? = some (.cells #[.slice (some ⟨P, 0, none⟩) m cP] 38 (0, 0))) (h6 : w.heap[b6]? = some (.cells #[.int .i64 (i : Int)] 3 (0, 0))) (h7 : w.heap[b7]? = some (.cells #[.string ln, .int .i64 lp, .slice AL nL cL, .int .i64 mn, .int .i64 cents] 41 (0, 0)))
    (hP : BelIs w P m (fun c => (pf c : Int))) (hi : i < m) (_ : m ≤ 20000) (hpi : pf i ≤ 100000) (hc0 : 0 ≤ cents) (hc1 : cents ≤ 1000000) (hm0 : 0 ≤ mn) (hm1 : mn ≤ 2000) (hcm0 : 0 ≤ come) (hcm1 : come ≤ 1000000) :
    Calls Tryd.prog 57 #[.int .i64 come, .pointer (some ⟨b5, 0, none⟩), .pointer (some ⟨b6, 0, none⟩), .pointer (some ⟨b7, 0, none⟩)] w fun e w' => e = .returned (.int .i64 (saveG (pf i) mn cents come)) ∧ w = w' := by
  have x5 := boxAt h5 0 rfl
  have x6 := boxAt h6 0 rfl
  have x73 := boxAt h7 3 rfl
  have x74 := boxAt h7 4 rfl
  obtain ⟨p1, p2⟩ := hP.get hi
  have hiI : (i : Int) < (m : Int) := by omega
  have HV : Hid (saveG (pf i) mn cents come = if come - (pf i : Int) < 0 ∨ (0 < come - (pf i : Int) ∧ come - (pf i : Int) < mn) then -1 else (come - (pf i : Int)) * cents) := rfl
  have hmul : come - (pf i : Int) < 0 ∨ (0 ≤ (come - (pf i : Int)) * cents ∧ (come - (pf i : Int)) * cents ≤ 1000000000000) := by
    by_cases h : come - (pf i : Int) < 0
    · exact .inl h
    · refine .inr ⟨Int.mul_nonneg (by omega) hc0, Int.le_trans (Int.mul_le_mul_of_nonneg_right (show come - (pf i : Int) ≤ 1000000 by omega) hc0) (by omega)⟩
  have hp0 : 0 ≤ ((pf i : Nat) : Int) := by omega
  have hp1 : ((pf i : Nat) : Int) ≤ 100000 := by omega
  generalize ((pf i : Nat) : Int) = p at *
  generalize saveG (pf i) mn cents come = sv at *
  clear h5 h6 h7 hP
  by_cases h1 : come - p < 0
  · have HX : Hid (sv = -1) := by rw [Hid, HV.out, if_pos (.inl h1)]
    clear hmul
    go_enter Tryd.func57, Tryd.ntmps57
    go_wp2
    go_ret
    exact ⟨ret_int HX.out.symm, rfl⟩
  · by_cases h2 : 0 < come - p
    · by_cases h3 : come - p < mn
      · have HX : Hid (sv = -1) := by rw [Hid, HV.out, if_pos (.inr ⟨h2, h3⟩)]
        clear hmul
        go_enter Tryd.func57, Tryd.ntmps57
        go_wp2
        go_ret
        exact ⟨ret_int HX.out.symm, rfl⟩
      · have HX : Hid (sv = (come - p) * cents) := by rw [Hid, HV.out, if_neg (by omega)]
        have hmul2 : 0 ≤ (come - p) * cents ∧ (come - p) * cents ≤ 1000000000000 := by omega
        obtain ⟨g1, g2⟩ := hmul2
        clear hmul
        go_enter Tryd.func57, Tryd.ntmps57
        go_wp2
        go_ret
        exact ⟨ret_int HX.out.symm, rfl⟩
    · have HX : Hid (sv = (come - p) * cents) := by rw [Hid, HV.out, if_neg (by omega)]
      have hmul2 : 0 ≤ (come - p) * cents ∧ (come - p) * cents ≤ 1000000000000 := by omega
      obtain ⟨g1, g2⟩ := hmul2
      clear hmul
      go_enter Tryd.func57, Tryd.ntmps57
      go_wp2
      go_ret
      exact ⟨ret_int HX.out.symm, rfl⟩
theorem saveG_bound {p : Nat} {mn cents come : Int} (hc0 : 0 ≤ cents) (hc1 : cents ≤ 1000000) (h0 : 0 ≤ come) (h1 : come ≤ 1000000) : -1 ≤ saveG p mn cents come ∧ saveG p mn cents come ≤ 1000000000000 := by
  unfold saveG
  split
  · omega
  · rename_i h
    have h2 := Int.mul_nonneg (show 0 ≤ come - (p : Int) by omega) hc0
    have h3 : (come - (p : Int)) * cents ≤ 1000000 * 1000000 := Int.le_trans (Int.mul_le_mul_of_nonneg_right (show come - (p : Int) ≤ 1000000 by omega) hc0) (by omega)
    omega
theorem canP_never {p0 : Nat} {mn cents target : Int} {b rest : List Int} {sum : Nat} {saved : Int} {p : Nat} (h : tat b p = -1) : canP p0 mn cents target b rest sum saved p = false := by
  unfold canP
  rw [h]
  rfl
theorem canP_true {p0 : Nat} {mn cents target : Int} {b rest : List Int} {sum : Nat} {saved : Int} {p n : Nat} (h : tat b p ≠ -1) (hn : canA p0 mn cents target rest (sum + p) (saved + tat b p) n = true) : canP p0 mn cents target b rest sum saved p = true := canP_iff.2 ⟨h, n, hn⟩
theorem canP_false {p0 : Nat} {mn cents target : Int} {b rest : List Int} {sum : Nat} {saved : Int} {p : Nat} (hn : (List.range rest.length).any (canA p0 mn cents target rest (sum + p) (saved + tat b p)) = false) : canP p0 mn cents target b rest sum saved p = false := by
  unfold canP
  rw [hn, Bool.and_false]
theorem any_more {f : Nat → Bool} {n : Nat} (h : (List.range n).any f = false) (hf : f n = false) : (List.range (n + 1)).any f = false := by
  rw [List.range_succ, List.any_append, h]
  simp [hf]
/-- What the closures find in their boxes. -/
structure CanBox (W : World) (T m cT P cP i c k sum ba bc bt bk bs bsum bsav bp bi bl : Nat) (saved : Int) (ct cl : Array Value) (pf : Nat → Nat) : Prop where
  all : W.heap[ba]? = some (.cells #[.slice (some ⟨T, 0, none⟩) m cT] 76 (0, 0))
  c : W.heap[bc]? = some (.cells #[.int .i64 (c : Int)] 3 (0, 0))
  t : W.heap[bt]? = some (.cells ct 79 (0, 0))
  k : W.heap[bk]? = some (.cells #[.int .i64 (k : Int)] 3 (0, 0))
  saves : W.heap[bs]? = some (.cells #[.func (.func 57) #[] #[.pointer (some ⟨bp, 0, none⟩), .pointer (some ⟨bi, 0, none⟩), .pointer (some ⟨bl, 0, none⟩)]] 107 (0, 0))
  sum : W.heap[bsum]? = some (.cells #[.int .i64 (sum : Int)] 3 (0, 0))
  saved : W.heap[bsav]? = some (.cells #[.int .i64 saved] 3 (0, 0))
  pass : W.heap[bp]? = some (.cells #[.slice (some ⟨P, 0, none⟩) m cP] 38 (0, 0))
  i : W.heap[bi]? = some (.cells #[.int .i64 (i : Int)] 3 (0, 0))
  lev : W.heap[bl]? = some (.cells cl 41 (0, 0))
  row : BelIs W P m (fun c => (pf c : Int))
theorem CanBox.below {W W' : World} {T m cT P cP i c k sum ba bc bt bk bs bsum bsav bp bi bl : Nat} {saved : Int} {ct cl : Array Value} {pf : Nat → Nat} (h : CanBox W T m cT P cP i c k sum ba bc bt bk bs bsum bsav bp bi bl saved ct cl pf) (hB : Below W.heap.size W W') : CanBox W' T m cT P cP i c k sum ba bc bt bk bs bsum bsav bp bi bl saved ct cl pf := by
  obtain ⟨h1, h2, h3, h4, h5, h6, h7, h8, h9, h10, h11⟩ := h
  exact ⟨blk_below h1 hB, blk_below h2 hB, blk_below h3 hB, blk_below h4 hB, blk_below h5 hB, blk_below h6 hB, blk_below h7 hB, blk_below h8 hB, blk_below h9 hB, blk_below h10 hB, h11.below hB⟩
set_option maxHeartbeats 2000000 in
set_option maxRecDepth 100000 in
theorem can_any (T m cT P cP i c k s p sum nL cL G gb gi gr cb ci crr cr ba bc bt bk bs bsum bsav bp bi bl : Nat) (saved : Int) (vs : Value) (ln : ByteArray) (lp mn cents : Int) (AL : Option Addr) (pf : Nat → Nat) (b own rest : List Int) (w : World)
    (hX : CanBox w T m cT P cP i c k sum ba bc bt bk bs bsum bsav bp bi bl saved #[vs, .slice (some ⟨gi, 0, none⟩) own.length ci, .slice (some ⟨G, 0, none⟩) (s + 1) cr] #[.string ln, .int .i64 lp, .slice AL nL cL, .int .i64 mn, .int .i64 cents] pf)
    (hTc : w.cell? ⟨T, c * 3 + 1, none⟩ = some (.slice (some ⟨gb, 0, none⟩) b.length cb)) (hb : BelIs w gb b.length (tat b)) (ho : BelIs w gi own.length (tat own))
    (hGc : w.cell? ⟨G, k + 1, none⟩ = some (.slice (some ⟨gr, 0, none⟩) rest.length crr)) (hr : BelIs w gr rest.length (tat rest))
    (hcm : c < m) (him : i < m) (hks : k < s) (hpb : p < b.length) (hpo : pf i < own.length) (hm : m ≤ 20000) (hs : s ≤ 20000)
    (hbl : b.length ≤ 4001) (hol : own.length ≤ 4001) (hrl : rest.length ≤ 4001) (hsum : sum ≤ 4001) (hsv0 : 0 ≤ saved) (hsv1 : saved ≤ 1000000000000000)
    (hbm : ∀ q, -1 ≤ tat b q ∧ tat b q ≤ 100000000000000) (hrm : ∀ q, -1 ≤ tat rest q ∧ tat rest q ≤ 100000000000000)
    (hc0 : 0 ≤ cents) (hc1 : cents ≤ 1000000) (hm0 : 0 ≤ mn) (hm1 : mn ≤ 2000) :
    Calls Tryd.prog 58 #[.int .i64 p, .pointer (some ⟨ba, 0, none⟩), .pointer (some ⟨bc, 0, none⟩), .pointer (some ⟨bt, 0, none⟩), .pointer (some ⟨bk, 0, none⟩), .pointer (some ⟨bs, 0, none⟩), .pointer (some ⟨bsum, 0, none⟩), .pointer (some ⟨bsav, 0, none⟩), .pointer (some ⟨bp, 0, none⟩), .pointer (some ⟨bi, 0, none⟩)] w fun e w' =>
      e = .returned (.bool (canP (pf i) mn cents (tat own (pf i)) b rest sum saved p)) ∧ Below w.heap.size w w' := by
  have HX := hid_ hX
  have x1 := boxAt hX.all 0 rfl
  have x2 := boxAt hX.c 0 rfl
  have x32 := boxAt hX.t 2 rfl
  have x4 := boxAt hX.k 0 rfl
  obtain ⟨b1, b2⟩ := hb.get hpb
  obtain ⟨y1, y2⟩ := hbm p
  have hcI : (c : Int) < (m : Int) := by omega
  have hkI : (k : Int) + 1 < (s : Int) + 1 := by omega
  have hk0 : (0 : Int) ≤ (k : Int) + 1 := by omega
  have hpI : (p : Int) < (b.length : Int) := by omega
  by_cases hx : tat b p = -1
  · have HV := hid_ (canP_never (p0 := pf i) (mn := mn) (cents := cents) (target := tat own (pf i)) (rest := rest) (sum := sum) (saved := saved) hx)
    rw [hx] at b1
    clear hX hb ho hr hbm hrm y1 y2 hx
    rw [HV.out]
    go_enter Tryd.func58, Tryd.ntmps58
    go_wp2
    go_ret
    exact ⟨rfl, Below.refl _ _⟩
  · have hd : (tat b p == (-1 : Int)) = false := int_eq_f hx
    have HR := hid_ hr
    have HO := hid_ ho
    have HRM := hid_ hrm
    have HT1 := hid_ (fun n (h : canA (pf i) mn cents (tat own (pf i)) rest (sum + p) (saved + tat b p) n = true) => canP_true (p0 := pf i) (mn := mn) (cents := cents) (target := tat own (pf i)) (rest := rest) (sum := sum) (saved := saved) hx h)
    have HF1 := hid_ (canP_false (p0 := pf i) (mn := mn) (cents := cents) (target := tat own (pf i)) (b := b) (rest := rest) (sum := sum) (saved := saved) (p := p))
    generalize canP (pf i) mn cents (tat own (pf i)) b rest sum saved p = res at *
    generalize tat b p = x at *
    clear hX hb ho hr hbm hrm hx
    go_enter Tryd.func58, Tryd.ntmps58
    go_wp2
    go_loopw [33] (fun i' wr => ∃ n : Nat, n ≤ rest.length ∧ i' = .int .i64 n ∧ Hid (Below w.heap.size w wr) ∧ Hid ((List.range n).any (canA (pf i) mn cents (tat own (pf i)) rest (sum + p) (saved + x)) = false)) (fun i' _ => rest.length - (intOf i').toNat)
    case atStart => exact ⟨0, Nat.zero_le _, rfl, Below.refl _ _, rfl⟩
    case round =>
      obtain ⟨n, hn, rfl, hB, hA⟩ := hrel
      by_cases hlt : n < rest.length
      · have hBx := HX.out.below hB.out
        have y5 := boxAt hBx.saves 0 rfl
        have y6 := boxAt hBx.sum 0 rfl
        have y7 := boxAt hBx.saved 0 rfl
        have y8 := boxAt hBx.pass 0 rfl
        have y9 := boxAt hBx.i 0 rfl
        have y31 := boxAt hBx.t 1 rfl
        obtain ⟨r1, r2⟩ := (HR.out.below hB.out).get hlt
        obtain ⟨o1, o2⟩ := (HO.out.below hB.out).get hpo
        obtain ⟨q1, q2⟩ := hBx.row.get him
        obtain ⟨m1, m2⟩ := HRM.out n
        have HSV := hid_ (saves_any P m cP bp bi bl i nL cL pf ln lp mn cents ((sum + p + n : Nat) : Int) AL wr hBx.pass hBx.i hBx.lev hBx.row him hm (by omega) hc0 hc1 hm0 hm1 (by omega) (by omega))
        have HCA : Hid (canA (pf i) mn cents (tat own (pf i)) rest (sum + p) (saved + x) n = (decide (tat rest n ≠ -1) && (decide (saveG (pf i) mn cents ((sum + p + n : Nat) : Int) ≠ -1) && decide (saved + x + tat rest n + saveG (pf i) mn cents ((sum + p + n : Nat) : Int) = tat own (pf i))))) := rfl
        have HNX := hid_ (fun h => any_more (f := canA (pf i) mn cents (tat own (pf i)) rest (sum + p) (saved + x)) hA.out h)
        have HTN := hid_ (HT1.out n)
        obtain ⟨z1, z2⟩ := saveG_bound (p := pf i) (mn := mn) hc0 hc1 (show 0 ≤ ((sum + p + n : Nat) : Int) by omega) (show ((sum + p + n : Nat) : Int) ≤ 1000000 by omega)
        have HBQ := hid_ (fun q => below_then hB.out hB.out.size (pw_below_drewN (Below.refl wr.heap.size wr) q))
        rw [show ((sum + p + n : Nat) : Int) = (sum : Int) + (p : Int) + (n : Int) from by omega] at HSV HCA z1 z2
        have him2 : (i : Int) < (m : Int) := by omega
        have hpo2 : ((pf i : Nat) : Int) < (own.length : Int) := by omega
        have hnI : (n : Int) < (rest.length : Int) := by omega
        generalize saveG (pf i) mn cents ((sum : Int) + (p : Int) + (n : Int)) = z at *
        generalize tat rest n = y at *
        generalize tat own (pf i) = tg at *
        generalize canA (pf i) mn cents tg rest (sum + p) (saved + x) n = ca at *
        clear hBx
        by_cases hy : y = -1
        · have HN := hid_ (HNX.out (by rw [HCA.out, hy]; rfl))
          have e1 : (y != (-1 : Int)) = false := by simp [hy]
          clear hy HCA HNX HTN
          go_wp2_with (go_at_call 57; refine HSV.out.mono ?_; rintro e w7 ⟨rfl, rfl⟩)
          go_quiet (fail)
          go_wp2
          go_roundw
          case rel => exact ⟨n + 1, by omega, by go_num, HBQ.out _, HN.out⟩
          case measure => simp [intOf]; omega
        · have e1 : (y != (-1 : Int)) = true := int_ne hy
          by_cases hz : z = -1
          · have HN := hid_ (HNX.out (by rw [HCA.out, hz]; simp))
            have e2 : (z != (-1 : Int)) = false := by simp [hz]
            clear hy hz HCA HNX HTN
            go_wp2_with (go_at_call 57; refine HSV.out.mono ?_; rintro e w7 ⟨rfl, rfl⟩)
            go_quiet (fail)
            go_wp2
            go_roundw
            case rel => exact ⟨n + 1, by omega, by go_num, HBQ.out _, HN.out⟩
            case measure => simp [intOf]; omega
          · have e2 : (z != (-1 : Int)) = true := int_ne hz
            have w1 : IntKind.i64.wrap (saved + x) = saved + x := IntWalk.i64_in _ (by omega)
            have w2 : IntKind.i64.wrap (saved + x + y) = saved + x + y := IntWalk.i64_in _ (by omega)
            have w3 : IntKind.i64.wrap (saved + x + y + z) = saved + x + y + z := IntWalk.i64_in _ (by omega)
            by_cases he : saved + x + y + z = tg
            · have HN := hid_ (HTN.out (by rw [HCA.out]; simp [hy, hz, he]))
              have e3 : (saved + x + y + z == tg) = true := by simp [he]
              clear hy hz he HCA HNX HTN
              go_wp2_with (go_at_call 57; refine HSV.out.mono ?_; rintro e w7 ⟨rfl, rfl⟩)
              go_quiet (fail)
              go_wp2
              go_ret
              exact ⟨ret_bool HN.out.symm, HBQ.out _⟩
            · have HN := hid_ (HNX.out (by rw [HCA.out]; simp [he]))
              have e3 : (saved + x + y + z == tg) = false := int_eq_f he
              clear hy hz he HCA HNX HTN
              go_wp2_with (go_at_call 57; refine HSV.out.mono ?_; rintro e w7 ⟨rfl, rfl⟩)
              go_quiet (fail)
              go_wp2
              go_roundw
              case rel => exact ⟨n + 1, by omega, by go_num, HBQ.out _, HN.out⟩
              case measure => simp [intOf]; omega
      · have HZ := hid_ (HF1.out (by rw [show rest.length = n by omega]; exact hA.out))
        go_wp2
        go_ret
        exact ⟨ret_bool HZ.out.symm, hB.out⟩
end Go.Proofs.YtejmlkfdkodabaaDoor
namespace Go.Proofs.YtejmlkfdkodabaaDoor
open Go.RowKit LB Go.Maps Go.Proofs.YtejmlkfdkodabaaDoorW.PrintWords

theorem presG_mem {ls : List Level} {m : Mailing} {g : Group} (h : g ∈ (presG ls m).1) : 0 ≤ g.level ∧ g.level < ls.length ∧ ∀ z ∈ g.items, ∃ k, k < m.pieces.length ∧ z = ((k : Nat) : Int) := by
  unfold presG at h
  split at h
  · obtain ⟨h1, h2, h3⟩ := groupsS_mem h
    exact ⟨h1, h2, fun z hz => by simpa using h3 z hz⟩
  · cases h
theorem taken_next {plan : List Int} {lv : Int} {its : List Int} {t : Nat} (h : t < its.length) : taken plan lv (its.take (t + 1)) = taken plan lv (its.take t) + (if plan.getD its[t].toNat 0 == lv then 1 else 0) := by
  unfold taken
  rw [List.take_succ_eq_append_getElem h, List.filter_append, List.length_append]
  congr 1
  rw [List.filter_cons, List.filter_nil]
  split <;> rfl
theorem taken_le (plan : List Int) (lv : Int) (its : List Int) : taken plan lv its ≤ its.length := List.length_filter_le _ _
set_option maxHeartbeats 4000000 in
set_option maxRecDepth 100000 in
theorem svalid_late (ls : List Level) (m : Mailing) (plan : List Int) (A A2 A4 : Option Addr) (c c2 c4 : Nat) (w : World) (hL : Kd.C kLevel w A ls.length ls) (hf : LFit ls) (hC : Kd.C kPiece w A2 m.pieces.length m.pieces) (hm : m.Fit) (hP : Kd.C (Kd.int .i64) w A4 plan.length plan) (hpm : plan.length ≤ 1000000)
    (h : plan.length = m.pieces.length) (h1 : okPlan ls.length plan = true) (h2 : (presG ls m).2 = 0) :
    Calls Tryd.prog 15 #[.slice A ls.length c, .agg #[.int .u8 m.cls, .int .u8 m.country, .string m.origin, .slice A2 m.pieces.length c2], .slice A4 plan.length c4] w fun e w' => e = .returned (.tuple #[.bool (validS ls m plan).1, .int .i64 (validS ls m plan).2]) ∧ Below w.heap.size w w' := by
  have HB0 := hid_ ((Below.refl w.heap.size w).alloc (Nat.le_refl _) (.cells #[.int .u8 m.cls, .int .u8 m.country, .string m.origin, .slice A2 m.pieces.length c2] 28))
  have HX0 := hid_ (blk_new w (.cells #[.int .u8 m.cls, .int .u8 m.country, .string m.origin, .slice A2 m.pieces.length c2] 28))
  have x3 := boxAt HX0.out 3 rfl
  have HPL := hid_ (planned_any ls.length A A4 c c4 plan _ (Kd.C_below hP HB0.out) hpm)
  have HPG := hid_ (fun (W : World) (hW : Below w.heap.size w W) => presgroups_any ls m A A2 c c2 W (Kd.C_below hL hW) hf (Kd.C_below hC hW) hm)
  have hmany := hm.many
  have HL := hid_ hL
  have HPN := hid_ hP
  clear hL hC hP hf hm
  have HV : Hid (validS ls m plan = ((presG ls m).1.all (groupOk ls plan), 0)) := by rw [Hid, validS, if_neg (by simp [h]), if_neg (by simp [h1]), if_neg (by simp [h2])]
  have d1 : ((plan.length : Int) != (m.pieces.length : Int)) = false := by simp; omega
  have d2 : ((presG ls m).2 != 0) = false := by simpa using h2
  have HMEM : Hid (∀ g ∈ (presG ls m).1, 0 ≤ g.level ∧ g.level < ls.length ∧ ∀ z ∈ g.items, ∃ k, k < m.pieces.length ∧ z = ((k : Nat) : Int)) := fun g hg => presG_mem hg
  rw [h1] at HPL
  rw [HV.out]
  have HH := hid_ h
  clear h h1 h2 HV
  go_enter Tryd.func15, Tryd.ntmps15
  go_wp2_with (first | (go_at_call 34; refine HPL.out.mono ?_; rintro e w1 ⟨rfl, hb1⟩; have x13 := boxAt (blk_below HX0.out hb1) 3 rfl; have x10 := boxAt (blk_below HX0.out hb1) 0 rfl; have x11 := boxAt (blk_below HX0.out hb1) 1 rfl; have x12 := boxAt (blk_below HX0.out hb1) 2 rfl; have HB1 := hid_ (below_then HB0.out HB0.out.size hb1); clear hb1) | (go_at_call 35; refine (HPG.out _ HB1.out).mono ?_; rintro e w2 ⟨⟨A9, c9, rfl, hC9⟩, hb2⟩; have HB2 := hid_ (below_then HB1.out HB1.out.size hb2); have HC9 := hid_ hC9; clear hC9 hb2))
  generalize hgs : (presG ls m).1 = gs at *
  have HGS := hid_ hgs
  clear hgs
  obtain ⟨wg, rfl⟩ : ∃ wg : World, wg = w2 := ⟨_, rfl⟩
  go_loopw [38] (fun i wr => ∃ k : Nat, k ≤ gs.length ∧ i = .int .i64 k ∧ Hid (Below wg.heap.size wg wr) ∧ Hid ((gs.take k).all (groupOk ls plan) = true)) (fun i _ => gs.length - (intOf i).toNat)
  case atStart => exact ⟨0, Nat.zero_le _, rfl, Below.refl _ _, by simp [Hid]⟩
  case round =>
    obtain ⟨wo, rfl⟩ : ∃ wo : World, wo = wr := ⟨_, rfl⟩
    obtain ⟨i, hi, rfl, hB, hA⟩ := hrel
    by_cases hlt : i < gs.length
    · obtain ⟨g, o, A3, c3, rfl, hg, hg', e0, e1, e2, e3, l3, g3⟩ := atGroup HC9.out hB.out i hlt
      obtain ⟨b1, b2, b3⟩ := HMEM.out gs[i] (List.getElem_mem hlt)
      have HNX := hid_ (fun hp => all_next (p := groupOk ls plan) hlt hA.out hp)
      have HNF := hid_ (fun hp => all_false_at (p := groupOk ls plan) hlt hp)
      have HGO : Hid (groupOk ls plan gs[i] = (taken plan gs[i].level gs[i].items == 0 || decide (minAt ls gs[i].level ≤ (taken plan gs[i].level gs[i].items : Nat)))) := rfl
      generalize groupOk ls plan gs[i] = ok at *
      obtain ⟨l, hl⟩ := Int.eq_ofNat_of_zero_le b1
      rw [hl] at b2 e0 HGO
      have hll : l < ls.length := by omega
      have hmn : minAt ls ((l : Nat) : Int) = ls[l].min := by unfold minAt; rw [Int.toNat_natCast, List.getElem?_eq_getElem hll]
      rw [hmn] at HGO
      clear hmn hl b1
      have HB3 := hid_ b3
      generalize gs[i].items = its at *
      obtain ⟨wl, hwl⟩ : ∃ wl, wo.alloc (.cells #[.int .i64 ((l : Nat) : Int), .string gs[i].name, .int .i64 gs[i].up, .slice A3 its.length c3] 43) = wl := ⟨_, rfl⟩
      have HBX : Hid (Below wo.heap.size wo wl ∧ wl.heap[wo.heap.size]? = some (.cells #[.int .i64 ((l : Nat) : Int), .string gs[i].name, .int .i64 gs[i].up, .slice A3 its.length c3] 43 (0, 0))) := by
        rw [← hwl]
        exact ⟨(Below.refl _ _).alloc (Nat.le_refl _) _, blk_new _ _⟩
      have y3 := boxAt HBX.out.2 3 rfl
      have HBL := hid_ (below_then hB.out hB.out.size HBX.out.1)
      have HBW := hid_ (below_then HB2.out HB2.out.size HBL.out)
      have HG4 := hid_ (Kd.C_below g3 HBL.out)
      have hlb : its.length ≤ 9223372036854775807 := g3.2.1
      have hgb : gs.length ≤ 9223372036854775807 := HC9.out.2.1
      clear b3 g3
      go_upto_region 11 with (fail)
      clear hwl
      go_loopw [12, 45] (fun cnt x W => ∃ t : Nat, t ≤ its.length ∧ x = .int .i64 t ∧ cnt = .int .i64 (taken plan ((l : Nat) : Int) (its.take t) : Nat) ∧ Hid (Below wl.heap.size wl W)) (fun _ x _ => its.length - (intOf x).toNat)
      case atStart => exact ⟨0, Nat.zero_le _, rfl, rfl, Below.refl _ _⟩
      case round =>
        obtain ⟨t, ht, rfl, rfl, hBi⟩ := hrel
        have htl := taken_le plan ((l : Nat) : Int) (its.take t)
        have htl2 : (its.take t).length = t := by simp; omega
        by_cases hlt5 : t < its.length
        · obtain ⟨g5, o5, rfl, hg5, _, z0⟩ := atInt HG4.out hBi.out t hlt5
          obtain ⟨k, hk, hkz⟩ := HB3.out its[t] (List.getElem_mem hlt5)
          have hkp : k < plan.length := by rw [HH.out]; exact hk
          have HTN := hid_ (taken_next (plan := plan) (lv := ((l : Nat) : Int)) hlt5)
          rw [hkz] at z0 HTN
          rw [Int.toNat_natCast, getI hkp] at HTN
          obtain ⟨g6, o6, rfl, _, _, p0⟩ := atInt HPN.out (below_then HBW.out HBW.out.size hBi.out) k hkp
          have y0 := boxAt (blk_below HBX.out.2 hBi.out) 0 rfl
          have hkI : (k : Int) < (plan.length : Int) := by omega
          have HBQ := hid_ (fun q => below_then hBi.out hBi.out.size (pw_below_drewN (Below.refl wr.heap.size wr) q))
          generalize taken plan ((l : Nat) : Int) (its.take t) = tk at *
          clear hkz hk
          by_cases hz : plan[k] = ((l : Nat) : Int)
          · have HT1 : Hid (taken plan ((l : Nat) : Int) (its.take (t + 1)) = tk + 1) := by rw [Hid, HTN.out, hz]; simp
            rw [hz] at p0
            clear hz HTN
            go_wp2
            go_quiet (fail)
            go_wp2
            go_roundw
            case rel => exact ⟨t + 1, by omega, by go_num, by rw [HT1.out]; go_num, HBQ.out _⟩
            case measure => simp [intOf]; omega
          · have HT1 : Hid (taken plan ((l : Nat) : Int) (its.take (t + 1)) = tk) := by rw [Hid, HTN.out]; simp [hz]
            have hzf : (plan[k] == ((l : Nat) : Int)) = false := int_eq_f hz
            clear hz HTN
            go_wp2
            go_quiet (fail)
            go_wp2
            go_roundw
            case rel => exact ⟨t + 1, by omega, by go_num, by rw [HT1.out], HBQ.out _⟩
            case measure => simp [intOf]; omega
        · have hte : its.take t = its := List.take_of_length_le (by omega)
          rw [hte] at htl
          have HTE := hid_ hte
          have HBR := hid_ (below_then HBL.out HBL.out.size hBi.out)
          have HBR2 := hid_ (below_then HBW.out HBW.out.size hBi.out)
          obtain ⟨ga, oa, Al, cl, rfl, _, _, m0, m1, m2, m3, m4, ml, _⟩ := atLevel HL.out HBR2.out l hll
          have y0 := boxAt (blk_below HBX.out.2 hBi.out) 0 rfl
          have hlI : (l : Int) < (ls.length : Int) := by omega
          rw [HTE.out]
          clear hte
          generalize taken plan ((l : Nat) : Int) its = tk at *
          by_cases h0 : tk = 0
          · have HOK := hid_ (HNX.out (by rw [HGO.out, h0]; rfl))
            subst h0
            go_wp2
            go_roundw
            case rel => exact ⟨i + 1, by omega, by go_num, HBR.out, HOK.out⟩
            case measure => simp [intOf]; omega
          · by_cases h1 : (tk : Int) < ls[l].min
            · have HOK := hid_ (HNF.out (by rw [HGO.out]; simp [h0]; omega))
              have htI : (0 : Int) < (tk : Int) := by omega
              go_wp2
              go_ret2
              refine ⟨?_, HBR2.out⟩
              rw [HGS.out, HOK.out]
              rfl
            · have HOK := hid_ (HNX.out (by rw [HGO.out]; simp [h0]; omega))
              have htI : (0 : Int) < (tk : Int) := by omega
              have hmI : ls[l].min ≤ (tk : Int) := by omega
              go_wp2
              go_roundw
              case rel => exact ⟨i + 1, by omega, by go_num, HBR.out, HOK.out⟩
              case measure => simp [intOf]; omega
    · have HX := hid_ (all_of_take (p := groupOk ls plan) (show gs.length ≤ i by omega) hA.out)
      go_wp2
      go_ret2
      refine ⟨?_, below_then HB2.out HB2.out.size hB.out⟩
      rw [HGS.out, HX.out]
      rfl
theorem svalid_any (ls : List Level) (m : Mailing) (plan : List Int) (A A2 A4 : Option Addr) (c c2 c4 : Nat) (w : World) (hL : Kd.C kLevel w A ls.length ls) (hf : LFit ls) (hC : Kd.C kPiece w A2 m.pieces.length m.pieces) (hm : m.Fit) (hP : Kd.C (Kd.int .i64) w A4 plan.length plan) (hpm : plan.length ≤ 1000000) :
    Calls Tryd.prog 15 #[.slice A ls.length c, .agg #[.int .u8 m.cls, .int .u8 m.country, .string m.origin, .slice A2 m.pieces.length c2], .slice A4 plan.length c4] w fun e w' => e = .returned (.tuple #[.bool (validS ls m plan).1, .int .i64 (validS ls m plan).2]) ∧ Below w.heap.size w w' := by
  by_cases h : plan.length = m.pieces.length
  · cases h1 : okPlan ls.length plan
    · exact svalid_early ls m plan A A2 A4 c c2 c4 w hL hf hC hm hP hpm (.inr ⟨h, .inl h1⟩)
    · by_cases h2 : (presG ls m).2 = 0
      · exact svalid_late ls m plan A A2 A4 c c2 c4 w hL hf hC hm hP hpm h h1 h2
      · exact svalid_early ls m plan A A2 A4 c c2 c4 w hL hf hC hm hP hpm (.inr ⟨h, .inr ⟨h1, h2⟩⟩)
  · exact svalid_early ls m plan A A2 A4 c c2 c4 w hL hf hC hm hP hpm (.inl h)
end Go.Proofs.YtejmlkfdkodabaaDoor
