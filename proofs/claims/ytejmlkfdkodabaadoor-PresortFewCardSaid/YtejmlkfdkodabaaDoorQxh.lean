/- Texts of one proof put together. letterbaglaw23.Made: a scheme for any numbers. The chapter's three examples: what the plan, its saving and its validity are. Plain Lean, closed. Rows of numbers of the call's own; the library's Repeat at one number, and Clone. The law's schemes and mailings of the chapter's examples. The law's mailings. The kind of a slice with marks behind it; levels whose labels have marks behind them. letterbagkit: what is lent: copies with marks behind them. -/
import Derived.Test.YtejmlkfdkodabaaDoorQxg
import Derived.Deep.DeepCutAuto
import Derived.Deep.CutRange
import Derived.Deep.RegionLaw
import Derived.Deep.RegionHeld3
import Derived.Test.YtejmlkfdkodabaaDoorQxf
import Derived.Test.YtejmlkfdkodabaaDoorQxe
import Derived.Shelf.Bits.Mul64
import Derived.Laws.CopyRow
import Derived.Laws.CopyOwn
import Derived.Shelf.Spec.SlicesInsert
import Derived.Lib.SliceRun
import Derived.Test.YtejmlkfdkodabaaDoorQxd
import Derived.Test.YtejmlkfdkodabaaDoorQxc
namespace Go.Proofs.YtejmlkfdkodabaaDoor
open Go.RowKit LB Go.Maps Go.Proofs.YtejmlkfdkodabaaDoorW.PrintWords

/-- The variables of Made: the least numbers, the cents, the levels so far. -/
structure MadeI (w : World) (least cents : List Int) (Al Ac : Option Addr) (cl cc : Nat) (ls : List Level) (W : World) : Prop where
  below : Below w.heap.size w W
  bl : W.heap[w.heap.size]? = some (.cells #[.slice Al least.length cl] 23 (0, 0))
  bc : W.heap[w.heap.size + 1]? = some (.cells #[.slice Ac cents.length cc] 23 (0, 0))
  out : LvsIs W (w.heap.size + 1 + 1) (w.heap.size + 1 + 1 + 1) ls
  big : w.heap.size + 1 + 1 + 1 ≤ W.heap.size
section
variable {w W W' : World} {least cents : List Int} {Al Ac : Option Addr} {cl cc : Nat} {ls ls' : List Level}
theorem MadeI.later (h : MadeI w least cents Al Ac cl cc ls W) (hB : Below W.heap.size W W') : MadeI w least cents Al Ac cl cc ls W' := by
  obtain ⟨v, h1, h2⟩ := h.out
  exact ⟨below_step h.below hB, blk_below h.bl hB, blk_below h.bc hB, ⟨v, blk_below h1 hB, Kd.R_below h2 hB⟩, Nat.le_trans h.big hB.size⟩
theorem MadeI.add {e : Ending} (h : MadeI w least cents Al Ac cl cc ls W) (hp : AddPost ls' (w.heap.size + 1 + 1) (w.heap.size + 1 + 1 + 1) W e W') : MadeI w least cents Al Ac cl cc ls' W' := by
  obtain ⟨_, h1, h2, h3⟩ := hp
  have h4 := h3 w w.heap.size (by omega) (by omega) h.below
  have h5 := h3 W (w.heap.size + 1 + 1) (Nat.le_refl _) (by omega) (Below.refl _ _)
  refine ⟨h4, (h2 _ (by omega) (by omega)).trans h.bl, (h2 _ (by omega) (by omega)).trans h.bc, h1, ?_⟩
  exact Nat.le_trans h.big h5.size
theorem MadeI.start (w : World) (least cents : List Int) (Al Ac : Option Addr) (cl cc : Nat) : MadeI w least cents Al Ac cl cc [] (((w.alloc (.cells #[.slice Al least.length cl] 23)).alloc (.cells #[.slice Ac cents.length cc] 23)).alloc (.cells #[.slice none 0 0] 25)) := by
  have b1 := below_alloc (Below.refl w.heap.size w) (.cells #[.slice Al least.length cl] 23)
  have b2 := below_alloc b1 (.cells #[.slice Ac cents.length cc] 23)
  have b3 := below_alloc b2 (.cells #[.slice none 0 0] 25)
  refine ⟨b3, blk_below (blk_below (blk_new w _) (below_alloc (Below.refl _ _) _)) (below_alloc (Below.refl _ _) _), ?_, ⟨.slice none 0 0, ?_, Kd.R_nil _ _ _ _ _⟩, by simp⟩
  · have h := blk_below (blk_new2 w (.cells #[.slice Al least.length cl] 23) (.cells #[.slice Ac cents.length cc] 23)) (below_alloc (Below.refl _ _) (.cells #[.slice none 0 0] 25))
    exact h
  · have h := blk_new2 (w.alloc (.cells #[.slice Al least.length cl] 23)) (.cells #[.slice Ac cents.length cc] 23) (.cells #[.slice none 0 0] 25)
    simpa using h
end
def bitA (n m : Int) : Bool := decide (0 < bits BinOp.and .u32 n m)
def bM (n : Int) (i : Nat) : Bool := if i < 3 then bitA n (2 ^ i) else bitA (n / 2 ^ i) 1
theorem bM_hi (n : Int) {i : Nat} (h : ¬ i < 3) : decide (0 < bits BinOp.and .u32 (n / 2 ^ i) 1) = bM n i := by unfold bM bitA; rw [if_neg h]
theorem made5_size : ∀ p ∈ made5, p.size = 5 := by
  intro p hp
  simp [made5] at hp
  rcases hp with rfl | rfl | rfl | rfl | rfl <;> rfl
theorem made3_size : ∀ p ∈ made3, p.size = 3 := by
  intro p hp
  simp [made3] at hp
  rcases hp with rfl | rfl | rfl | rfl | rfl | rfl <;> rfl
theorem made1_size : ∀ p ∈ made1, p.size = 1 := by
  intro p hp
  simp [made1] at hp
  rcases hp with rfl | rfl | rfl <;> rfl
theorem made_few0 (_ : Nat → Bool) (_ _ : List Int) : ([] : List Level).length ≤ 10 := by simp
theorem made_few1 (b : Nat → Bool) (least cents : List Int) : (made1S b least cents).length ≤ 10 := by
  unfold made1S addM
  split <;> simp
theorem made_few2 (b : Nat → Bool) (least cents : List Int) : (made2S b least cents).length ≤ 10 := by
  have h : (made1S b least cents).length ≤ 1 := by unfold made1S addM; split <;> simp
  unfold made2S addM
  split
  · rw [List.length_append, List.length_singleton]; omega
  · omega
theorem made_few3 (b : Nat → Bool) (least cents : List Int) : (made3S b least cents).length ≤ 10 := by
  have h : (made1S b least cents).length ≤ 1 := by unfold made1S addM; split <;> simp
  have h2 : (made2S b least cents).length ≤ 2 := by
    unfold made2S addM
    split
    · rw [List.length_append, List.length_singleton]; omega
    · omega
  unfold made3S addM
  split
  · rw [List.length_append, List.length_singleton]; omega
  · omega
/-- A new slice of levels. -/
def LevelsPost (ls : List Level) (w : World) (e : Ending) (w' : World) : Prop := (∃ A c, e = .returned (.slice A ls.length c) ∧ Kd.R kLevel 41 w' w.heap.size (fun _ => True) (.slice A ls.length c) ls) ∧ Below w.heap.size w w'
def lits5 : Array Value := #[.string ⟨#[49, 48, 48, 48, 48]⟩, .string ⟨#[49, 48, 48, 48, 49]⟩, .string ⟨#[49, 48, 48, 49, 48]⟩, .string ⟨#[49, 49, 48, 48, 48]⟩, .string ⟨#[50, 48, 48, 48, 48]⟩]
theorem lits5_at {k : Nat} (h : k < made5.length) : lits5[k]? = some (.string made5[k]) := by
  match k, h with
  | 0, _ => rfl
  | 1, _ => rfl
  | 2, _ => rfl
  | 3, _ => rfl
  | 4, _ => rfl
def lits3 : Array Value := #[.string ⟨#[49, 48, 48]⟩, .string ⟨#[49, 48, 49]⟩, .string ⟨#[49, 49, 48]⟩, .string ⟨#[50, 48, 48]⟩, .string ⟨#[50, 48, 49]⟩, .string ⟨#[51, 48, 48]⟩]
theorem lits3_at {k : Nat} (h : k < made3.length) : lits3[k]? = some (.string made3[k]) := by
  match k, h with
  | 0, _ => rfl
  | 1, _ => rfl
  | 2, _ => rfl
  | 3, _ => rfl
  | 4, _ => rfl
  | 5, _ => rfl
def lits1 : Array Value := #[.string ⟨#[49]⟩, .string ⟨#[50]⟩, .string ⟨#[51]⟩]
theorem lits1_at {k : Nat} (h : k < made1.length) : lits1[k]? = some (.string made1[k]) := by
  match k, h with
  | 0, _ => rfl
  | 1, _ => rfl
  | 2, _ => rfl
set_option maxHeartbeats 8000000 in
set_option maxRecDepth 100000 in
theorem made23_any (n : Int) (least cents : List Int) (Al Ac : Option Addr) (cl cc : Nat) (w : World) (_ : 0 ≤ n) (_ : n < 4294967296)
    (hL : Kd.C (Kd.int .u8) w Al least.length least) (hC : Kd.C (Kd.int .u8) w Ac cents.length cents) (hn : NumsOk least cents) :
    Calls Tryd.prog 25 #[.int .u32 n, .slice Al least.length cl, .slice Ac cents.length cc] w (LevelsPost (madeS (bM n) least cents) w) := by
  have HST := hid_ (MadeI.start w least cents Al Ac cl cc)
  have HL := hid_ hL
  have HC := hid_ hC
  have HN := hid_ hn
  clear hL hC hn
  go_enter Tryd.func25, Tryd.ntmps25
  go_upto_region 3 with (fail)
  go_cut [22] (fun t wx => t = .bool (bitA n 1) ∧ Hid (MadeI w least cents Al Ac cl cc [] wx))
  case first =>
    go_wp2
    go_meet
    case rel => exact ⟨rfl, HST.out⟩
  case rest =>
    obtain ⟨rfl, hI⟩ := hcut
    obtain ⟨W0, rfl⟩ : ∃ W0 : World, W0 = wc := ⟨_, rfl⟩
    go_upto_if 22 with (fail)
    go_cut [9, 10, 11] (fun _ _ _ wx => Hid (MadeI w least cents Al Ac cl cc (made1S (bM n) least cents) wx))
    case first =>
      cases hb : bitA n 1
      · go_wp2
        go_meet
        case rel =>
          rw [Hid, made1S, addM, show bM n 0 = false from hb, if_neg (by simp)]
          exact hI.out
      · go_wp2
        go_loopw [26] (fun x wr => ∃ (k : Nat) (v : Value) (ys : List Label), k ≤ 5 ∧ x = .int .i64 k ∧ Hid (Below W0.heap.size W0 wr) ∧ Hid (wr.heap[W0.heap.size]? = some (.cells #[.string nFive, .int .i64 5, v, .int .i64 0, .int .i64 0] 41 (0, 0))) ∧ Hid (wr.heap[W0.heap.size + 1]? = some (.cells lits5 9 (0, 0))) ∧ Hid (Kd.R kLabel 87 wr (W0.heap.size + 2) (fun _ => True) v ys) ∧ Hid (ys = pickL (bM n) grp5 3 (made5.take k))) (fun x _ => 5 - (intOf x).toNat)
        case atStart => exact ⟨0, .slice none 0 0, [], by omega, rfl, (Below.refl _ _).alloc (Nat.le_refl _) _ |>.alloc (by simp) _, blk_below (blk_new _ _) (below_alloc (Below.refl _ _) _), blk_new2 _ _ _, Kd.R_nil _ _ _ _ _, rfl⟩
        case round =>
          obtain ⟨k, v, ys, hk, rfl, hB, hX, hX1, hR, hY⟩ := hrel
          obtain ⟨Av, cv, rfl⟩ := Kd.R_slice hR.out
          by_cases hlt : k < 5
          · have hs := boxAt hX1.out k (lits5_at hlt)
            have hk5 : (k : Int) < 5 := by omega
            have HN := hid_ ((pickL_next (bM n) grp5 3 (ps := made5) hlt).trans (by rw [← hY.out]))
            have hyl : ys.length ≤ 6 := by rw [hY.out]; exact Nat.le_trans (pickL_len _ _ _ _) (by simp; omega)
            have hps := made5_size made5[k] (List.getElem_mem hlt)
            have hbt := bM_hi n (show ¬ 3 + k < 3 by omega)
            generalize made5[k] = p at *
            have hgl := blk_lt hX.out
            have y2 := boxAt hX.out 2 rfl
            have y2f := blk_frozen hX.out 2
            cases hq : bM n (3 + k)
            · rw [hq] at hbt
              have HY1 := hid_ (show ys = pickL (bM n) grp5 3 (made5.take (k + 1)) by rw [HN.out, hq]; simp)
              clear hq
              go_wp2
              go_roundw
              case rel => exact ⟨k + 1, _, ys, by omega, by go_num, hB.out, hX.out, hX1.out, hR.out, HY1.out⟩
              case measure => simp [intOf]; omega
            · rw [hq] at hbt
              have HY1 := hid_ (show ys ++ [⟨p, grp5 p⟩] = pickL (bM n) grp5 3 (made5.take (k + 1)) by rw [HN.out, hq]; simp)
              clear hq
              have HRD := hid_ (Kd.R_below hR.out (below_drew (Below.refl _ _)))
              have HXD := hid_ (blk_below hX.out (below_drew (Below.refl _ _)))
              have HX1D := hid_ (blk_below hX1.out (below_drew (Below.refl _ _)))
              have HBD := hid_ (below_drew hB.out)
              have HSZ : Hid (W0.heap.size + 2 ≤ wr.drew.heap.size) := by have := blk_lt hX1.out; rw [Hid]; simp; omega
              go_wp2
              go_region_law (refine Kd.R_append_step kLabel (w0 := wr.drew) (W := wr.drew) (W0.heap.size + 2) rfl (.tmp 38) (.tmp 44) 39 87 (.agg #[.string ⟨#[]⟩, .string ⟨#[]⟩]) 32 rfl Tryd.underlying39 infoLabel rfl (by decide) (by decide) (.slice Av ys.length cv) ys ⟨p, grp5 p⟩ [.string p, .string (grp5 p)] (fun _ => True) (fun _ => False) (by simp [Act.eval]) (by simp [Act.eval]) (kLabel_mkM _ _ _ _) (fun _ hk => hk.elim) (fun _ _ => trivial) HRD.out (Below.refl _ _) HSZ.out (by omega) ?_; intro v1 w1 ho1 hb1 hg1 _; obtain ⟨A1, c1, rfl⟩ := Kd.R_slice ho1; rw [List.length_append, List.length_singleton] at ho1; have HR1 := hid_ ho1; have HXE := hid_ (blk_grown HXD.out hg1 (fun e => by have := Kd.R_base HRD.out _ e.symm; omega)); have HX1E := hid_ (blk_grown HX1D.out hg1 (fun e => by have := Kd.R_base HRD.out _ e.symm; omega)); have HBE := hid_ (HBD.out.trans (hb1.mono (Nat.le_add_right _ 2))); have u2 := boxAt HXE.out 2 rfl; have q2 := blk_frozen HXE.out 2; clear ho1 hb1 hg1)
              all_goals go_wp2
              all_goals exact ⟨⟨k + 1, _, _, by omega, by go_num, below_set HBE.out (Nat.le_refl _), blk_put HXE.out 2 _ rfl, blk_far HX1E.out (by simp) _, far_base HR1.out (by simp) _, HY1.out⟩, by simp [intOf]; omega⟩
          · have HMI := hid_ (hI.out.later hB.out)
            have HYL : Hid (ys = pickL (bM n) grp5 3 made5) := by rw [Hid, hY.out, List.take_of_length_le (show made5.length ≤ k by simp [made5]; omega)]
            have HADD := hid_ (add_any least cents nFive 5 ys [] (.slice Av ys.length cv) w.heap.size (w.heap.size + 1) (w.heap.size + 1 + 1) (w.heap.size + 1 + 1 + 1) Al Ac cl cc wr HMI.out.out HMI.out.bl HMI.out.bc (Kd.C_below HL.out HMI.out.below) (Kd.C_below HC.out HMI.out.below) HN.out (Kd.R_lower hR.out (by have := hI.out.big; omega)) (by omega) HMI.out.big (made_few0 (bM n) least cents))
            have e0 := boxAt hX.out 0 rfl
            have e1 := boxAt hX.out 1 rfl
            have e2 := boxAt hX.out 2 rfl
            have e3 := boxAt hX.out 3 rfl
            have e4 := boxAt hX.out 4 rfl
            have hk5 : decide ((k : Int) < 5) = false := by simp; omega
            go_wp2_with (go_at_call 40; refine HADD.out.mono ?_; rintro e w9 ⟨rfl, hp1, hp2, hp3⟩; have HM9 := hid_ (HMI.out.add (e := .returned (.tuple #[])) ⟨rfl, hp1, hp2, hp3⟩); clear hp1 hp2 hp3)
            go_meet
            case rel =>
              have h9 := HM9.out
              rw [HYL.out] at h9
              rw [Hid, made1S, addM, show bM n 0 = true from hb, if_pos rfl]
              exact h9
    case rest =>
      go_upto_region 12 with (fail)
      go_cut [53] (fun t wx => t = .bool (bitA n 2) ∧ Hid (MadeI w least cents Al Ac cl cc (made1S (bM n) least cents) wx))
      case first =>
        go_wp2
        go_meet
        case rel => exact ⟨rfl, hcut⟩
      case rest =>
        obtain ⟨rfl, hI⟩ := hcut
        obtain ⟨W0, rfl⟩ : ∃ W0 : World, W0 = wc := ⟨_, rfl⟩
        go_upto_if 53 with (fail)
        go_cut [12, 13, 14] (fun _ _ _ wx => Hid (MadeI w least cents Al Ac cl cc (made2S (bM n) least cents) wx))
        case first =>
          cases hb : bitA n 2
          · go_wp2
            go_meet
            case rel =>
              rw [Hid, made2S, addM, show bM n 1 = false from hb, if_neg (by simp)]
              exact hI.out
          · go_wp2
            go_loopw [57] (fun x wr => ∃ (k : Nat) (v : Value) (ys : List Label), k ≤ 6 ∧ x = .int .i64 k ∧ Hid (Below W0.heap.size W0 wr) ∧ Hid (wr.heap[W0.heap.size]? = some (.cells #[.string nThree, .int .i64 3, v, .int .i64 0, .int .i64 0] 41 (0, 0))) ∧ Hid (wr.heap[W0.heap.size + 1]? = some (.cells lits3 9 (0, 0))) ∧ Hid (Kd.R kLabel 87 wr (W0.heap.size + 2) (fun _ => True) v ys) ∧ Hid (ys = pickL (bM n) grp3 8 (made3.take k))) (fun x _ => 6 - (intOf x).toNat)
            case atStart => exact ⟨0, .slice none 0 0, [], by omega, rfl, (Below.refl _ _).alloc (Nat.le_refl _) _ |>.alloc (by simp) _, blk_below (blk_new _ _) (below_alloc (Below.refl _ _) _), blk_new2 _ _ _, Kd.R_nil _ _ _ _ _, rfl⟩
            case round =>
              obtain ⟨k, v, ys, hk, rfl, hB, hX, hX1, hR, hY⟩ := hrel
              obtain ⟨Av, cv, rfl⟩ := Kd.R_slice hR.out
              by_cases hlt : k < 6
              · have hs := boxAt hX1.out k (lits3_at hlt)
                have hk5 : (k : Int) < 6 := by omega
                have HN := hid_ ((pickL_next (bM n) grp3 8 (ps := made3) hlt).trans (by rw [← hY.out]))
                have hyl : ys.length ≤ 6 := by rw [hY.out]; exact Nat.le_trans (pickL_len _ _ _ _) (by simp; omega)
                have hps := made3_size made3[k] (List.getElem_mem hlt)
                have hbt := bM_hi n (show ¬ 8 + k < 3 by omega)
                generalize made3[k] = p at *
                have hgl := blk_lt hX.out
                have y2 := boxAt hX.out 2 rfl
                have y2f := blk_frozen hX.out 2
                cases hq : bM n (8 + k)
                · rw [hq] at hbt
                  have HY1 := hid_ (show ys = pickL (bM n) grp3 8 (made3.take (k + 1)) by rw [HN.out, hq]; simp)
                  clear hq
                  go_wp2
                  go_roundw
                  case rel => exact ⟨k + 1, _, ys, by omega, by go_num, hB.out, hX.out, hX1.out, hR.out, HY1.out⟩
                  case measure => simp [intOf]; omega
                · rw [hq] at hbt
                  have HY1 := hid_ (show ys ++ [⟨p, grp3 p⟩] = pickL (bM n) grp3 8 (made3.take (k + 1)) by rw [HN.out, hq]; simp)
                  clear hq
                  have HRD := hid_ (Kd.R_below hR.out (below_drew (Below.refl _ _)))
                  have HXD := hid_ (blk_below hX.out (below_drew (Below.refl _ _)))
                  have HX1D := hid_ (blk_below hX1.out (below_drew (Below.refl _ _)))
                  have HBD := hid_ (below_drew hB.out)
                  have HSZ : Hid (W0.heap.size + 2 ≤ wr.drew.heap.size) := by have := blk_lt hX1.out; rw [Hid]; simp; omega
                  go_wp2
                  go_region_law (refine Kd.R_append_step kLabel (w0 := wr.drew) (W := wr.drew) (W0.heap.size + 2) rfl (.tmp 69) (.tmp 75) 39 87 (.agg #[.string ⟨#[]⟩, .string ⟨#[]⟩]) 32 rfl Tryd.underlying39 infoLabel rfl (by decide) (by decide) (.slice Av ys.length cv) ys ⟨p, grp3 p⟩ [.string p, .string (grp3 p)] (fun _ => True) (fun _ => False) (by simp [Act.eval]) (by simp [Act.eval]) (kLabel_mkM _ _ _ _) (fun _ hk => hk.elim) (fun _ _ => trivial) HRD.out (Below.refl _ _) HSZ.out (by omega) ?_; intro v1 w1 ho1 hb1 hg1 _; obtain ⟨A1, c1, rfl⟩ := Kd.R_slice ho1; rw [List.length_append, List.length_singleton] at ho1; have HR1 := hid_ ho1; have HXE := hid_ (blk_grown HXD.out hg1 (fun e => by have := Kd.R_base HRD.out _ e.symm; omega)); have HX1E := hid_ (blk_grown HX1D.out hg1 (fun e => by have := Kd.R_base HRD.out _ e.symm; omega)); have HBE := hid_ (HBD.out.trans (hb1.mono (Nat.le_add_right _ 2))); have u2 := boxAt HXE.out 2 rfl; have q2 := blk_frozen HXE.out 2; clear ho1 hb1 hg1)
                  all_goals go_wp2
                  all_goals exact ⟨⟨k + 1, _, _, by omega, by go_num, below_set HBE.out (Nat.le_refl _), blk_put HXE.out 2 _ rfl, blk_far HX1E.out (by simp) _, far_base HR1.out (by simp) _, HY1.out⟩, by simp [intOf]; omega⟩
              · have HMI := hid_ (hI.out.later hB.out)
                have HYL : Hid (ys = pickL (bM n) grp3 8 made3) := by rw [Hid, hY.out, List.take_of_length_le (show made3.length ≤ k by simp [made3]; omega)]
                have HADD := hid_ (add_any least cents nThree 3 ys (made1S (bM n) least cents) (.slice Av ys.length cv) w.heap.size (w.heap.size + 1) (w.heap.size + 1 + 1) (w.heap.size + 1 + 1 + 1) Al Ac cl cc wr HMI.out.out HMI.out.bl HMI.out.bc (Kd.C_below HL.out HMI.out.below) (Kd.C_below HC.out HMI.out.below) HN.out (Kd.R_lower hR.out (by have := hI.out.big; omega)) (by omega) HMI.out.big (made_few1 (bM n) least cents))
                have e0 := boxAt hX.out 0 rfl
                have e1 := boxAt hX.out 1 rfl
                have e2 := boxAt hX.out 2 rfl
                have e3 := boxAt hX.out 3 rfl
                have e4 := boxAt hX.out 4 rfl
                have hk5 : decide ((k : Int) < 6) = false := by simp; omega
                go_wp2_with (go_at_call 40; refine HADD.out.mono ?_; rintro e w9 ⟨rfl, hp1, hp2, hp3⟩; have HM9 := hid_ (HMI.out.add (e := .returned (.tuple #[])) ⟨rfl, hp1, hp2, hp3⟩); clear hp1 hp2 hp3)
                go_meet
                case rel =>
                  have h9 := HM9.out
                  rw [HYL.out] at h9
                  rw [Hid, made2S, addM, show bM n 1 = true from hb, if_pos rfl]
                  exact h9
        case rest =>
          go_upto_region 21 with (fail)
          go_cut [84] (fun t wx => t = .bool (bitA n 4) ∧ Hid (MadeI w least cents Al Ac cl cc (made2S (bM n) least cents) wx))
          case first =>
            go_wp2
            go_meet
            case rel => exact ⟨rfl, hcut⟩
          case rest =>
            obtain ⟨rfl, hI⟩ := hcut
            obtain ⟨W0, rfl⟩ : ∃ W0 : World, W0 = wc := ⟨_, rfl⟩
            go_upto_if 84 with (fail)
            go_cut [15, 16, 17] (fun _ _ _ wx => Hid (MadeI w least cents Al Ac cl cc (made3S (bM n) least cents) wx))
            case first =>
              cases hb : bitA n 4
              · go_wp2
                go_meet
                case rel =>
                  rw [Hid, made3S, addM, show bM n 2 = false from hb, if_neg (by simp)]
                  exact hI.out
              · go_wp2
                go_loopw [88] (fun x wr => ∃ (k : Nat) (v : Value) (ys : List Label), k ≤ 3 ∧ x = .int .i64 k ∧ Hid (Below W0.heap.size W0 wr) ∧ Hid (wr.heap[W0.heap.size]? = some (.cells #[.string nOne, .int .i64 1, v, .int .i64 0, .int .i64 0] 41 (0, 0))) ∧ Hid (wr.heap[W0.heap.size + 1]? = some (.cells lits1 9 (0, 0))) ∧ Hid (Kd.R kLabel 87 wr (W0.heap.size + 2) (fun _ => True) v ys) ∧ Hid (ys = pickL (bM n) grp1 14 (made1.take k))) (fun x _ => 3 - (intOf x).toNat)
                case atStart => exact ⟨0, .slice none 0 0, [], by omega, rfl, (Below.refl _ _).alloc (Nat.le_refl _) _ |>.alloc (by simp) _, blk_below (blk_new _ _) (below_alloc (Below.refl _ _) _), blk_new2 _ _ _, Kd.R_nil _ _ _ _ _, rfl⟩
                case round =>
                  obtain ⟨k, v, ys, hk, rfl, hB, hX, hX1, hR, hY⟩ := hrel
                  obtain ⟨Av, cv, rfl⟩ := Kd.R_slice hR.out
                  by_cases hlt : k < 3
                  · have hs := boxAt hX1.out k (lits1_at hlt)
                    have hk5 : (k : Int) < 3 := by omega
                    have HN := hid_ ((pickL_next (bM n) grp1 14 (ps := made1) hlt).trans (by rw [← hY.out]))
                    have hyl : ys.length ≤ 6 := by rw [hY.out]; exact Nat.le_trans (pickL_len _ _ _ _) (by simp; omega)
                    have hps := made1_size made1[k] (List.getElem_mem hlt)
                    have hbt := bM_hi n (show ¬ 14 + k < 3 by omega)
                    generalize made1[k] = p at *
                    have hgl := blk_lt hX.out
                    have y2 := boxAt hX.out 2 rfl
                    have y2f := blk_frozen hX.out 2
                    cases hq : bM n (14 + k)
                    · rw [hq] at hbt
                      have HY1 := hid_ (show ys = pickL (bM n) grp1 14 (made1.take (k + 1)) by rw [HN.out, hq]; simp)
                      clear hq
                      go_wp2
                      go_roundw
                      case rel => exact ⟨k + 1, _, ys, by omega, by go_num, hB.out, hX.out, hX1.out, hR.out, HY1.out⟩
                      case measure => simp [intOf]; omega
                    · rw [hq] at hbt
                      have HY1 := hid_ (show ys ++ [⟨p, grp1 p⟩] = pickL (bM n) grp1 14 (made1.take (k + 1)) by rw [HN.out, hq]; simp)
                      clear hq
                      have HSZ : Hid (W0.heap.size + 2 ≤ wr.heap.size) := by have := blk_lt hX1.out; rw [Hid]; omega
                      go_wp2_with (at_builtin; refine Kd.R_append kLabel (w0 := wr) (W0.heap.size + 2) rfl (.tmp 100) (.tmp 103) 39 87 (.agg #[.string ⟨#[]⟩, .string ⟨#[]⟩]) 32 rfl Tryd.underlying39 infoLabel rfl (by decide) (by decide) _ ys ⟨p, grp1 p⟩ [.string p, .string (grp1 p)] (fun _ => True) (fun _ => False) rfl rfl (kLabel_mkM _ _ _ _) (fun _ hk => hk.elim) (fun _ _ => trivial) hR.out (Below.refl _ _) HSZ.out (by omega) ?_; intro v1 w1 ho1 hb1 hg1 _; obtain ⟨A1, c1, rfl⟩ := Kd.R_slice ho1; rw [List.length_append, List.length_singleton] at ho1; have HR1 := hid_ ho1; have HXE := hid_ (blk_grown hX.out hg1 (fun e => by have := Kd.R_base hR.out _ e.symm; omega)); have HX1E := hid_ (blk_grown hX1.out hg1 (fun e => by have := Kd.R_base hR.out _ e.symm; omega)); have HBE := hid_ (hB.out.trans (hb1.mono (Nat.le_add_right _ 2))); have u2 := boxAt HXE.out 2 rfl; have q2 := blk_frozen HXE.out 2; clear ho1 hb1 hg1)
                      go_roundw
                      case rel => exact ⟨k + 1, _, _, by omega, by go_num, below_set HBE.out (Nat.le_refl _), blk_put HXE.out 2 _ rfl, blk_far HX1E.out (by simp) _, far_base HR1.out (by simp) _, HY1.out⟩
                      case measure => simp [intOf]; omega
                  · have HMI := hid_ (hI.out.later hB.out)
                    have HYL : Hid (ys = pickL (bM n) grp1 14 made1) := by rw [Hid, hY.out, List.take_of_length_le (show made1.length ≤ k by simp [made1]; omega)]
                    have HADD := hid_ (add_any least cents nOne 1 ys (made2S (bM n) least cents) (.slice Av ys.length cv) w.heap.size (w.heap.size + 1) (w.heap.size + 1 + 1) (w.heap.size + 1 + 1 + 1) Al Ac cl cc wr HMI.out.out HMI.out.bl HMI.out.bc (Kd.C_below HL.out HMI.out.below) (Kd.C_below HC.out HMI.out.below) HN.out (Kd.R_lower hR.out (by have := hI.out.big; omega)) (by omega) HMI.out.big (made_few2 (bM n) least cents))
                    have e0 := boxAt hX.out 0 rfl
                    have e1 := boxAt hX.out 1 rfl
                    have e2 := boxAt hX.out 2 rfl
                    have e3 := boxAt hX.out 3 rfl
                    have e4 := boxAt hX.out 4 rfl
                    have hk5 : decide ((k : Int) < 3) = false := by simp; omega
                    go_wp2_with (go_at_call 40; refine HADD.out.mono ?_; rintro e w9 ⟨rfl, hp1, hp2, hp3⟩; have HM9 := hid_ (HMI.out.add (e := .returned (.tuple #[])) ⟨rfl, hp1, hp2, hp3⟩); clear hp1 hp2 hp3)
                    go_meet
                    case rel =>
                      have h9 := HM9.out
                      rw [HYL.out] at h9
                      rw [Hid, made3S, addM, show bM n 2 = true from hb, if_pos rfl]
                      exact h9
            case rest =>
              have hI := hcut
              clear hcut
              obtain ⟨W0, rfl⟩ : ∃ W0 : World, W0 = wc := ⟨_, rfl⟩
              have HMS : Hid (madeS (bM n) least cents = made3S (bM n) least cents ++ [⟨nAll, 0, [], 0, centsM cents (made3S (bM n) least cents).length⟩]) := rfl
              have hfew := made_few3 (bM n) least cents
              generalize made3S (bM n) least cents = ls at *
              obtain ⟨⟨v, hv1, hv2⟩⟩ := hI.out.out
              obtain ⟨Av, cv, rfl⟩ := Kd.R_slice hv2
              have x0 := boxAt hv1 0 rfl
              have z0 := boxAt hI.out.bc 0 rfl
              have hob := blk_lt hv1
              have hbc1 := blk_lt hI.out.bc
              have hccl : cents.length ≤ 9223372036854775807 := HC.out.2.1
              have HV1 := hid_ hv1
              have HV2 := hid_ hv2
              clear hv1 hv2
              go_upto_region 31 with (fail)
              by_cases h2 : ls.length < cents.length
              · have HCT := hid_ (centsM_in (cents := cents) h2)
                obtain ⟨gc, oc, rfl, _, hgc, ca⟩ := atInt HC.out hI.out.below ls.length h2
                obtain ⟨ca0, ca1⟩ := HN.out.cents cents[ls.length] (List.getElem_mem h2)
                generalize cents[ls.length] = ca' at ca ca0 ca1 HCT
                obtain ⟨wl, hwl⟩ : ∃ wl, W0.alloc (.cells #[.string ⟨#[97, 108, 108]⟩, .int .i64 0, .slice none 0 0, .int .i64 0, .int .i64 ca'] 41) = wl := ⟨_, rfl⟩
                have HBW : Hid (Below W0.heap.size W0 wl) := by rw [← hwl]; exact below_alloc (Below.refl _ _) _
                have HSZ := hid_ (Nat.le_trans hI.out.big HBW.out.size)
                have HVW := hid_ (Kd.R_below HV2.out HBW.out)
                have HPM : Hid (kLevel.M wl (w.heap.size + 1 + 1 + 1) (fun _ => False) ⟨nAll, 0, [], 0, centsM cents ls.length⟩ [.string ⟨#[97, 108, 108]⟩, .int .i64 0, .slice none 0 0, .int .i64 0, .int .i64 ca']) := by
                  rw [HCT.out]
                  exact kLevel_mkM wl (w.heap.size + 1 + 1 + 1) (fun _ => False) ⟨nAll, 0, [], 0, ca'⟩ (Kd.R_nil _ _ _ _ _)
                have x1 := cellB HBW.out x0
                have z1 := cellB HBW.out z0
                have HWX : Hid (wl.heap[W0.heap.size]? = some (.cells #[.string ⟨#[97, 108, 108]⟩, .int .i64 0, .slice none 0 0, .int .i64 0, .int .i64 ca'] 41 (0, 0))) := by rw [← hwl]; exact blk_new _ _
                have e0 := boxAt HWX.out 0 rfl
                have e1 := boxAt HWX.out 1 rfl
                have e2 := boxAt HWX.out 2 rfl
                have e3 := boxAt HWX.out 3 rfl
                have e4 := boxAt HWX.out 4 rfl
                have HBB := hid_ (below_step hI.out.below HBW.out)
                go_wp2_with (at_builtin; refine Kd.R_append kLevel (w0 := wl) (w.heap.size + 1 + 1 + 1) rfl (.tmp 123) (.tmp 125) 25 41 (.agg #[.string ⟨#[]⟩, .int .i64 0, .slice none 0 0, .int .i64 0, .int .i64 0]) 64 rfl Tryd.underlying25 infoLevel rfl (by decide) (by decide) _ ls ⟨nAll, 0, [], 0, centsM cents ls.length⟩ _ (fun _ => True) (fun _ => False) rfl rfl HPM.out (fun _ hk => hk.elim) (fun _ _ => trivial) HVW.out (Below.refl _ _) HSZ.out (by omega) ?_; intro v3 w3 hR3 hb3 _ _; rw [← HMS.out] at hR3; obtain ⟨A3, c3, rfl⟩ := Kd.R_slice hR3; have HC5 := hid_ (Kd.R_lower hR3 (show w.heap.size ≤ _ by omega)); have HB3 := hid_ (HBB.out.trans (hb3.mono (by omega))); clear hR3 hb3)
                go_ret
                exact ⟨⟨A3, c3, rfl, HC5.out⟩, HB3.out⟩
              · have HCT := hid_ (centsM_out (cents := cents) h2)
                obtain ⟨wl, hwl⟩ : ∃ wl, W0.alloc (.cells #[.string ⟨#[97, 108, 108]⟩, .int .i64 0, .slice none 0 0, .int .i64 0, .int .i64 0] 41) = wl := ⟨_, rfl⟩
                have HBW : Hid (Below W0.heap.size W0 wl) := by rw [← hwl]; exact below_alloc (Below.refl _ _) _
                have HSZ := hid_ (Nat.le_trans hI.out.big HBW.out.size)
                have HVW := hid_ (Kd.R_below HV2.out HBW.out)
                have HPM : Hid (kLevel.M wl (w.heap.size + 1 + 1 + 1) (fun _ => False) ⟨nAll, 0, [], 0, centsM cents ls.length⟩ [.string ⟨#[97, 108, 108]⟩, .int .i64 0, .slice none 0 0, .int .i64 0, .int .i64 0]) := by
                  rw [HCT.out]
                  exact kLevel_mkM wl (w.heap.size + 1 + 1 + 1) (fun _ => False) ⟨nAll, 0, [], 0, 0⟩ (Kd.R_nil _ _ _ _ _)
                have x1 := cellB HBW.out x0
                have z1 := cellB HBW.out z0
                have HWX : Hid (wl.heap[W0.heap.size]? = some (.cells #[.string ⟨#[97, 108, 108]⟩, .int .i64 0, .slice none 0 0, .int .i64 0, .int .i64 0] 41 (0, 0))) := by rw [← hwl]; exact blk_new _ _
                have e0 := boxAt HWX.out 0 rfl
                have e1 := boxAt HWX.out 1 rfl
                have e2 := boxAt HWX.out 2 rfl
                have e3 := boxAt HWX.out 3 rfl
                have e4 := boxAt HWX.out 4 rfl
                have HBB := hid_ (below_step hI.out.below HBW.out)
                go_wp2_with (at_builtin; refine Kd.R_append kLevel (w0 := wl) (w.heap.size + 1 + 1 + 1) rfl (.tmp 123) (.tmp 125) 25 41 (.agg #[.string ⟨#[]⟩, .int .i64 0, .slice none 0 0, .int .i64 0, .int .i64 0]) 64 rfl Tryd.underlying25 infoLevel rfl (by decide) (by decide) _ ls ⟨nAll, 0, [], 0, centsM cents ls.length⟩ _ (fun _ => True) (fun _ => False) rfl rfl HPM.out (fun _ hk => hk.elim) (fun _ _ => trivial) HVW.out (Below.refl _ _) HSZ.out (by omega) ?_; intro v3 w3 hR3 hb3 _ _; rw [← HMS.out] at hR3; obtain ⟨A3, c3, rfl⟩ := Kd.R_slice hR3; have HC5 := hid_ (Kd.R_lower hR3 (show w.heap.size ≤ _ by omega)); have HB3 := hid_ (HBB.out.trans (hb3.mono (by omega))); clear hR3 hb3)
                go_ret
                exact ⟨⟨A3, c3, rfl, HC5.out⟩, HB3.out⟩
end Go.Proofs.YtejmlkfdkodabaaDoor
namespace Go.Proofs.YtejmlkfdkodabaaDoor
open LB

def lv3 : Level := ⟨⟨#[51]⟩, 3, [], 3, 5⟩
def lv1 : Level := ⟨⟨#[49]⟩, 1, [], 2, 3⟩
def lvAll : Level := ⟨⟨#[97, 108, 108]⟩, 0, [], 0, 0⟩
def twoS : List Level := [lv3, lvAll]
def threeS : List Level := [lv3, lv1, lvAll]
def pieceAt (k : Nat) (c : ByteArray) : Piece := ⟨1 + (k : Int), 0, c, 1 + (k : Int) % 20, false⟩
def pcs : Nat → List ByteArray → List Piece
  | _, [] => []
  | i, c :: r => pieceAt i c :: pcs (i + 1) r
def mail25 (cs : List ByteArray) : Mailing := ⟨1, 1, ⟨#[49, 48, 48, 48, 48]⟩, pcs 0 cs⟩
def s100 : ByteArray := ⟨#[49, 48, 48]⟩
def s110 : ByteArray := ⟨#[49, 49, 48]⟩
def s200 : ByteArray := ⟨#[50, 48, 48]⟩
def codes1 : List ByteArray := [s100, s100, s200, s100, s200]
def codes2 : List ByteArray := [s100, s100, s100, s100, s110]
def codes3 : List ByteArray := [s100, s100, s100, s110]
def want1 : List Int := [0, 0, 1, 0, 1]
def want2 : List Int := [0, 0, 0, 1, 1]
def want3 : List Int := [0, 0, 0, 2]
/-- What an example asks: there are groups, the plan is the one wanted, it saves so much, and it is valid. -/
def ExOk (ls : List Level) (cs : List ByteArray) (want : List Int) (sv : Int) : Prop :=
  (presG ls (mail25 cs)).2 = 0 ∧ planG ls (presG ls (mail25 cs)).1 (mail25 cs).pieces.length = want ∧ saveS ls want = (sv, 0) ∧ validS ls (mail25 cs) want = (true, 0)
theorem ex1 : ExOk twoS codes1 want1 15 := ⟨by kernel_rfl, by kernel_rfl, by kernel_rfl, by kernel_rfl⟩
theorem ex2 : ExOk threeS codes2 want2 21 := ⟨by kernel_rfl, by kernel_rfl, by kernel_rfl, by kernel_rfl⟩
theorem ex3 : ExOk threeS codes3 want3 15 := ⟨by kernel_rfl, by kernel_rfl, by kernel_rfl, by kernel_rfl⟩
end Go.Proofs.YtejmlkfdkodabaaDoor
namespace Go.Proofs
open Go.Shelf
def Tryd.lays212_ren : Go.Shelf.Ren := ⟨fun | 212 => 76 | 263 => 90 | 264 => 91 | n => n, fun | 46 => 98 | 51 => 22 | 146 => 138 | 53 => 120 | 148 => 140 | n => n, fun | n => n⟩
theorem Tryd.lays212 : Go.Proofs.Lays.n212 Tryd.prog Tryd.lays212_ren := {
  mixed := by kernel_rfl
  f212 := Tryd.func76.trans (congrArg some (by kernel_rfl))
  f263 := Tryd.func90.trans (congrArg some (by kernel_rfl))
  f264 := Tryd.func91.trans (congrArg some (by kernel_rfl))
  t46 := Tryd.underlying98
  a46 := Tryd.isAgg98
  z46 := Tryd.sizeOf98
  v46 := Tryd.zeroValue98
  t51 := Tryd.underlying22
  a51 := Tryd.isAgg22
  z51 := Tryd.sizeOf22
  v51 := Tryd.zeroValue22
  t53 := Tryd.underlying120
  a53 := Tryd.isAgg120
  z53 := Tryd.sizeOf120
  v53 := Tryd.zeroValue120
  t146 := Tryd.underlying138
  a146 := Tryd.isAgg138
  z146 := Tryd.sizeOf138
  v146 := Tryd.zeroValue138
  t148 := Tryd.underlying140
  a148 := Tryd.isAgg140
  z148 := Tryd.sizeOf140
  v148 := Tryd.zeroValue140 }
end Go.Proofs
namespace Go.Proofs.YtejmlkfdkodabaaDoor
open Go.RowKit LB Go.Maps Go.Sort Go.ChangeShapes Go.Proofs.YtejmlkfdkodabaaDoorW.PrintWords

theorem BelIs.set {W : World} {B m : Nat} {f : Nat → Int} (h : BelIs W B m f) {i : Nat} (hi : i < m) (x : Int) : BelIs (W.setCell ⟨B, i, none⟩ (.int .i64 x)) B m (fun j => if j = i then x else f j) := by
  obtain ⟨cells, h1, h2, h3⟩ := h
  refine ⟨_, blk_put h1 i _ rfl, by simpa using h2, fun j hj => ?_⟩
  show _ = some (Value.int .i64 (if j = i then x else f j))
  by_cases e : j = i
  · subst e
    rw [if_pos rfl, Array.getElem?_setIfInBounds_self_of_lt (by omega)]
  · rw [if_neg e, Array.getElem?_setIfInBounds_ne (Ne.symm e)]
    exact h3 j hj
theorem BelIs.get {W : World} {B m : Nat} {f : Nat → Int} (h : BelIs W B m f) {i : Nat} (hi : i < m) : W.cell? ⟨B, i, none⟩ = some (.int .i64 (f i)) ∧ W.frozen? ⟨B, i, none⟩ = false := by
  obtain ⟨cells, h1, h2, h3⟩ := h
  exact ⟨(blk_cell h1 i).trans (h3 i hi), blk_frozen h1 i⟩
theorem BelIs.lt {W : World} {B m : Nat} {f : Nat → Int} (h : BelIs W B m f) : B < W.heap.size := by
  obtain ⟨cells, h1, _⟩ := h
  exact blk_lt h1
theorem zero_at (B k : Nat) : (if k = 0 then (⟨B, 0, none⟩ : Addr) else ⟨B, k, none⟩) = ⟨B, k, none⟩ := by
  by_cases e : k = 0
  · subst e; rfl
  · rw [if_neg e]
theorem BelIs.reads {W : World} {B : Nat} {xs : List Int} {f : Nat → Int} (h : BelIs W B xs.length f) (hm : xs.length ≤ 1000000) (hf : ∀ i (h : i < xs.length), f i = xs[i]) : Kd.C (Kd.int .i64) W (some ⟨B, 0, none⟩) xs.length xs := by
  refine ⟨rfl, by omega, fun _ => ⟨_, rfl, fun k z hk => ?_⟩⟩
  obtain ⟨hkl, rfl⟩ := List.getElem?_eq_some_iff.1 hk
  refine ⟨[.int .i64 xs[k]], rfl, rfl, fun i u hu => ?_⟩
  match i, hu with
  | 0, hu =>
    obtain rfl : Value.int .i64 xs[k] = u := by simpa using hu
    have h1 := (h.get hkl).1
    rw [hf k hkl] at h1
    have h2 := zero_at B k
    simpa [Addr.add, Kd.int, Kd.scalar, h2] using h1
theorem BelIs.readsF {W : World} {B m : Nat} {f : Nat → Int} (h : BelIs W B m f) (hm : m ≤ 1000000) : Kd.C (Kd.int .i64) W (some ⟨B, 0, none⟩) m ((List.range m).map f) := by
  have h1 := BelIs.reads (xs := (List.range m).map f) (f := f) (by simpa using h) (by simpa using hm) (fun i hi => by simp)
  simpa using h1
theorem BelIs.off {W : World} {B m : Nat} {f : Nat → Int} (h : BelIs W B m f) {a : Addr} (ha : a.block ≠ B) (u : Value) : BelIs (W.setCell a u) B m f := by
  obtain ⟨cells, h1, h2, h3⟩ := h
  exact ⟨cells, (Below.heap_setCell W a u B (Ne.symm ha)).trans h1, h2, h3⟩
/-- copy of numbers that are all alike into a row of the call's own. -/
theorem copy_same {w0 W : World} {B N o k dl dc sl sc base : Nat} {f : Nat → Int} {x : Int} {ad : Addr} (T : TypeId) (h : BelIs W B N f) (hk : k = Nat.min sl dl) (hfit : o + k ≤ N) (hsrc : ∀ j, j < k → W.cell? (ad.add j) = some (.int .i64 x)) (hb : base ≤ B) (hB : Below base w0 W) :
    ∃ W', (Builtin.copy_ #[38, 38] T #[.slice (some ⟨B, o, none⟩) dl dc, .slice (some ad) sl sc]).run Tryd.prog W = .ok (.int .i64 k) W' ∧ BelIs W' B N (fun j => if o ≤ j ∧ j < o + k then x else f j) ∧ Below base w0 W' := by
  obtain ⟨cells, h1, h2, h3⟩ := h
  have hr := run_copy_row (P := Tryd.prog) W 38 38 T 3 B o dl dc ad sl sc cells 3 (List.replicate k (.int .i64 x)) Tryd.underlying38 (by kernel_rfl) h1 (by simpa using hk)
    (fun j v hj => by
      have hj' : j < k := by
        have := (List.getElem?_eq_some_iff.1 hj).1
        simpa using this
      rw [List.getElem?_replicate, if_pos hj'] at hj
      rw [hsrc j hj']; exact hj) (by simp; omega) (fun v hv => by rw [List.eq_of_mem_replicate hv]; rfl)
  rw [List.length_replicate] at hr
  refine ⟨_, hr, ⟨_, setRow_heap W B cells _ _ _ h1, ?_, fun i hi => ?_⟩, below_setRow hB hb _⟩
  · simp [List.length_append]
    omega
  · have hc : cells.toList.length = cells.size := by simp
    simp only [List.getElem?_toArray]
    by_cases e1 : i < o
    · rw [if_neg (by omega), List.append_assoc, List.getElem?_append_left (by rw [List.length_take]; omega), List.getElem?_take_of_lt e1, Array.getElem?_toList]
      exact h3 i hi
    · by_cases e2 : i < o + k
      · rw [if_pos (by omega), List.getElem?_append_left (by rw [List.length_append, List.length_take, List.length_replicate]; omega), List.getElem?_append_right (by rw [List.length_take]; omega), List.length_take, List.getElem?_replicate, if_pos (by omega)]
      · rw [if_neg (by omega), List.getElem?_append_right (by rw [List.length_append, List.length_take, List.length_replicate]; omega), List.length_append, List.length_take, List.length_replicate, List.getElem?_drop, Array.getElem?_toList]
        have e3 : o + k + (i - (min o cells.toList.length + k)) = i := by omega
        rw [e3]
        exact h3 i hi
set_option maxHeartbeats 1000000 in
set_option maxRecDepth 100000 in
/-- slices.Repeat at one number. -/
theorem repeat_any (x : Int) (A : Option Addr) (c n : Nat) (w : World) (hC : Kd.C (Kd.int .i64) w A 1 [x]) (h1 : 1 ≤ n) (hm : n ≤ 1000000) :
    Calls Tryd.prog 53 #[.slice A 1 c, .int .i64 n] w fun e w' => (∃ B cc, e = .returned (.slice (some ⟨B, 0, none⟩) n cc) ∧ n ≤ cc ∧ w.heap.size ≤ B ∧ BelIs w' B n (fun _ => x)) ∧ Below w.heap.size w w' := by
  obtain ⟨g, o, rfl, hg, _, c0⟩ := atInt hC (Below.refl _ _) 0 (by simp)
  have HM : Hid (∀ W : World, Calls Tryd.prog 76 #[.int .u64 1, .int .u64 n] W fun e w' => e = .returned (.tuple #[.int .u64 0, .int .u64 n]) ∧ W = w') := fun W => by
    have h := Any.bits_Mul Tryd.lays212 1 n (by omega) (by omega) W
    have e1 : 1 * n / 18446744073709551616 = 0 := by omega
    have e2 : 1 * n % 18446744073709551616 = n := by omega
    rw [e1, e2] at h
    exact h.mono fun _ _ ⟨h1, h2⟩ => ⟨h1, h2.symm⟩
  have hc0 : w.cell? ⟨g, o, none⟩ = some (.int .i64 x) := by simpa using c0
  have HC0 := hid_ hc0
  clear hC c0 hc0
  go_enter Tryd.func53, Tryd.ntmps53
  go_wp2_with (first | (go_at_call 76; refine (HM.out _).mono ?_; rintro e w' ⟨rfl, rfl⟩) | (at_make; refine Kd.R_make (Kd.int .i64) (w0 := w) w.heap.size 3 rfl (N := 30) rfl 38 _ _ rfl (n : Int) rfl rfl Tryd.underlying38 (.int .i64 0) 8 infoInt rfl (by decide) (by omega) 0 (ok := fun _ => True) (okp := fun _ => True) rfl (fun _ hk => hk) trivial (by omega) (by omega) (Below.refl _ _) (Nat.le_refl _) ?_; intro v4 w4 ho4 hb4 hg4 hn4; obtain ⟨B, cb, rfl, hB, hbel⟩ := bel_made ho4 hn4; rw [Int.toNat_natCast] at hbel; have hnc := (Kd.R_reads' ho4).2.1; rw [Int.toNat_natCast] at hnc; have HC1 := hid_ (cellB hb4 HC0.out); have HBEL := hid_ hbel; have HB4 := hid_ hb4; clear ho4 hb4 hg4 hn4 hbel) | (obtain ⟨w5, hr5, hbel5, hb5⟩ := copy_same (dl := n) (dc := cb) (sl := 1) (sc := c) (o := 0) (k := 1) (x := x) (ad := ⟨g, o, none⟩) 3 HBEL.out (by have : Nat.min 1 n = min 1 n := rfl; omega) (by omega) (fun j hj => (show j = 0 by omega) ▸ HC1.out) hB HB4.out; refine wpList_copy_runI _ rfl (.tmp 31) (.tmp 32) 38 38 rfl _ _ rfl rfl hr5 ?_; have HBEL5 := hid_ hbel5; have HB5 := hid_ hb5; clear hr5 hbel5 hb5))
  go_loopw [8] (fun i wr => ∃ k : Nat, 1 ≤ k ∧ k ≤ n ∧ i = .int .i64 k ∧ Hid (Below w.heap.size w wr) ∧ ∃ f, Hid (BelIs wr B n f) ∧ Hid (∀ j, j < k → f j = x)) (fun i _ => n - (intOf i).toNat)
  case atStart => exact ⟨1, Nat.le_refl _, h1, rfl, HB5.out, _, HBEL5.out, fun j hj => if_pos (by omega)⟩
  case round =>
    obtain ⟨k, hk1, hk, rfl, hb, f, hT, hF⟩ := hrel
    by_cases hlt : k < n
    · obtain ⟨W', hrc, hbel9, hb9⟩ := copy_same (w0 := w) (W := wr.drew) (dl := n - k) (dc := cb - k) (sl := k) (sc := cb) (o := k) (k := Nat.min k (n - k)) (x := x) (ad := ⟨B, 0, none⟩) 3 (hT.out.below (below_drew (Below.refl _ _))) rfl (by have : Nat.min k (n - k) = min k (n - k) := rfl; omega) (fun j hj => by
        have hj' : j < k := by have : Nat.min k (n - k) = min k (n - k) := rfl; omega
        have h2 := (hT.out.get (show j < n by omega)).1
        rw [hF.out j hj'] at h2
        have h3 := zero_at B j
        simpa [Addr.add, h3] using h2) hB (below_drew hb.out)
      have hkc : ¬ cb = k := by omega
      have hkc2 : k ≤ cb := by omega
      go_wp2
      go_region_law (refine step_copy_runI rfl (.tmp 41) (.tmp 44) 38 38 rfl (.slice (some ⟨B, k, none⟩) (n - k) (cb - k)) (.slice (some ⟨B, 0, none⟩) k cb) (by simp [Act.eval, Act.put]) (by simp [Act.eval, Act.put]) hrc ?_)
      have HM9 : Hid (k + Nat.min k (n - k) ≤ n ∧ k < k + Nat.min k (n - k)) := by have : Nat.min k (n - k) = min k (n - k) := rfl; rw [Hid]; omega
      have HB9 := hid_ hb9
      have HBEL9 := hid_ hbel9
      have HF9 : Hid (∀ j, j < k + Nat.min k (n - k) → (if k ≤ j ∧ j < k + Nat.min k (n - k) then x else f j) = x) := fun j hj => by
        by_cases e : k ≤ j ∧ j < k + Nat.min k (n - k)
        · rw [if_pos e]
        · rw [if_neg e]; exact hF.out j (by omega)
      clear hrc hbel9 hb9
      generalize Nat.min k (n - k) = q at *
      obtain ⟨hm1, hm2⟩ := HM9.out
      have HW : Hid (IntKind.i64.wrap ((k : Int) + (q : Int)) = ((k + q : Nat) : Int)) := by rw [Hid, IntWalk.i64_in _ (by omega)]; omega
      go_wp2
      go_roundw
      case rel => exact ⟨.int .i64 ((k + q : Nat) : Int), _, _, _, _, _, _, _, _, _, _, _, _, _, ⟨k + q, by omega, hm1, rfl, HB9.out, _, HBEL9.out, HF9.out⟩, by simp [Act.put, HW.out]; and_intros <;> rfl⟩
      case measure => simp [intOf, Act.put, HW.out]; omega
    · have HX : Hid (∀ j, j < n → f j = x) := fun j hj => hF.out j (by omega)
      go_wp2
      go_ret
      exact ⟨⟨B, cb, rfl, hnc, hB, hT.out.congr HX.out⟩, hb.out⟩
theorem bel_of_R {W : World} {base : Nat} {ok : Nat → Prop} {v : Value} {xs : List Int} (h : Kd.R (Kd.int .i64) 3 W base ok v xs) (hp : 0 < xs.length) : ∃ B c, v = .slice (some ⟨B, 0, none⟩) xs.length c ∧ base ≤ B ∧ xs.length ≤ c ∧ BelIs W B xs.length (fun i => xs.getD i 0) := by
  have ho := Kd.own_of_R h
  rcases ho.2 with ⟨rfl, h0⟩ | ⟨g, cap, cur, rfl, hg, hh, h1, h2, h3, h4⟩
  · omega
  · refine ⟨g, cap, rfl, hg, h1, cur, hh, by omega, fun i hi => ?_⟩
    have h5 : (cur.toList.take xs.length)[i]? = (encs (Value.int .i64) xs)[i]? := by rw [← h4, Nat.mul_one]
    rw [List.getElem?_take_of_lt hi] at h5
    rw [← Array.getElem?_toList, h5]
    simp [encs, List.getD_eq_getElem?_getD, hi]
theorem lit_one (w : World) (x : Int) : Kd.C (Kd.int .i64) (w.alloc (.cells #[.int .i64 x] 3)) (some ⟨w.heap.size, 0, none⟩) 1 [x] := by
  have h : BelIs (w.alloc (.cells #[.int .i64 x] 3)) w.heap.size 1 (fun _ => x) := by
    refine ⟨_, blk_new w _, by simp, fun i hi => ?_⟩
    obtain rfl : i = 0 := by omega
    rfl
  refine BelIs.reads (xs := [x]) h (by simp) (fun i hi => ?_)
  obtain rfl : i = 0 := by simpa using hi
  rfl
theorem lit_nil (W : World) (base : Nat) (hb : base ≤ W.heap.size) : Kd.R (Kd.int .i64) 3 (W.alloc (.cells #[] 3)) base (fun _ => True) (.slice (some ⟨W.heap.size, 0, none⟩) 0 0) [] := by
  refine ⟨fun _ _ => trivial, [], ?_, ⟨rfl, fun j p hj => by cases hj⟩⟩
  have h2 := World.ownsRow_lit (base := base) (e := 3) (size := 1) W #[] 0 hb (by decide) rfl
  have h3 : (W.alloc (.cells #[] 3)).ownsRow base 3 1 (.slice (some ⟨W.heap.size, 0, none⟩) 0 0) 0 [] := by simpa using h2
  exact h3
set_option maxHeartbeats 1000000 in
set_option maxRecDepth 100000 in
/-- slices.Clone. -/
theorem clone_any (xs : List Int) (A : Option Addr) (c : Nat) (w : World) (hC : Kd.C (Kd.int .i64) w A xs.length xs) (h1 : 0 < xs.length) (hm : xs.length ≤ 1000000) :
    Calls Tryd.prog 56 #[.slice A xs.length c] w fun e w' => (∃ B cc, e = .returned (.slice (some ⟨B, 0, none⟩) xs.length cc) ∧ xs.length ≤ cc ∧ w.heap.size ≤ B ∧ BelIs w' B xs.length (fun i => xs.getD i 0)) ∧ Below w.heap.size w w' := by
  obtain ⟨g, o, rfl, hg, _, c0⟩ := atInt hC (Below.refl _ _) 0 h1
  have HL := hid_ (lit_nil w w.heap.size (Nat.le_refl _))
  have HB := hid_ ((Below.refl w.heap.size w).alloc (Nat.le_refl _) (.cells #[] 3))
  have HC := hid_ (Kd.C_below hC HB.out)
  have heq := fun (W : World) => Lib.run_eql_slice_nil (P := Tryd.prog) W 38 3 (some ⟨g, o, none⟩) xs.length c 0 0 Tryd.underlying38
  clear hC c0
  go_enter Tryd.func56, Tryd.ntmps56
  go_wp2_with (at_builtin; refine Kd.R_append_row (.int .i64) 0 (w0 := w) w.heap.size rfl (.tmp 5) (.tmp 6) 38 3 (.int .i64 0) 8 rfl Tryd.underlying38 infoInt rfl (by decide) _ [] xs _ _ _ (fun _ => True) rfl rfl (fun _ _ => trivial) HL.out HC.out HB.out HB.out.size (by simp; omega) ?_; intro v1 w1 hR hb hg hat; rw [List.nil_append] at hR; obtain ⟨B, cc, rfl, hB, hcc, hbel⟩ := bel_of_R hR h1; have HBEL := hid_ hbel; have HB1 := hid_ hb; clear hR hb hg hat hbel)
  go_ret
  exact ⟨⟨B, cc, rfl, hcc, hB, HBEL.out⟩, HB1.out⟩
end Go.Proofs.YtejmlkfdkodabaaDoor
namespace Go.Proofs.YtejmlkfdkodabaaDoor
open Go.RowKit LB Go.Maps Go.Proofs.YtejmlkfdkodabaaDoorW.PrintWords

theorem lev_lit (W : World) (base : Nat) (x : Level) (h : x.labels = []) : kLevel.M W base (fun _ => True) x [.string x.name, .int .i64 x.pre, .slice none 0 0, .int .i64 x.min, .int .i64 x.cents] :=
  kLevel_mkM W base _ x (by rw [h]; exact Kd.R_nil _ _ _ _ _)
theorem two_lit (W : World) : Kd.R kLevel 41 (W.alloc (.cells #[.string ⟨#[51]⟩, .int .i64 3, .slice none 0 0, .int .i64 3, .int .i64 5, .string ⟨#[97, 108, 108]⟩, .int .i64 0, .slice none 0 0, .int .i64 0, .int .i64 0] 41)) W.heap.size (fun _ => True) (.slice (some ⟨W.heap.size, 0, none⟩) 2 2) twoS :=
  row_lit kLevel W W.heap.size 41 twoS _ (Nat.le_refl _) (reps_cons (lev_lit W _ lv3 rfl) rfl (reps_cons (c := [.string ⟨#[97, 108, 108]⟩, .int .i64 0, .slice none 0 0, .int .i64 0, .int .i64 0]) (cs := []) (lev_lit W _ lvAll rfl) rfl (Reps.none _ _))) (by decide)
theorem three_lit (W : World) : Kd.R kLevel 41 (W.alloc (.cells #[.string ⟨#[51]⟩, .int .i64 3, .slice none 0 0, .int .i64 3, .int .i64 5, .string ⟨#[49]⟩, .int .i64 1, .slice none 0 0, .int .i64 2, .int .i64 3, .string ⟨#[97, 108, 108]⟩, .int .i64 0, .slice none 0 0, .int .i64 0, .int .i64 0] 41)) W.heap.size (fun _ => True) (.slice (some ⟨W.heap.size, 0, none⟩) 3 3) threeS :=
  row_lit kLevel W W.heap.size 41 threeS _ (Nat.le_refl _) (reps_cons (lev_lit W _ lv3 rfl) rfl (reps_cons (lev_lit W _ lv1 rfl) rfl (reps_cons (c := [.string ⟨#[97, 108, 108]⟩, .int .i64 0, .slice none 0 0, .int .i64 0, .int .i64 0]) (cs := []) (lev_lit W _ lvAll rfl) rfl (Reps.none _ _)))) (by decide)

set_option maxHeartbeats 4000000 in
set_option maxRecDepth 100000 in
theorem two_any (w : World) : Calls Tryd.prog 22 #[] w fun e w' => (∃ A c, e = .returned (.slice A 2 c) ∧ Kd.C kLevel w' A 2 twoS) ∧ Below w.heap.size w w' := by
  have HC := hid_ (Kd.R_reads' (two_lit w)).2.2
  have HB := hid_ ((Below.refl w.heap.size w).alloc (Nat.le_refl _) (.cells #[.string ⟨#[51]⟩, .int .i64 3, .slice none 0 0, .int .i64 3, .int .i64 5, .string ⟨#[97, 108, 108]⟩, .int .i64 0, .slice none 0 0, .int .i64 0, .int .i64 0] 41))
  go_enter Tryd.func22, Tryd.ntmps22
  go_wp2
  go_ret
  exact ⟨⟨_, _, rfl, HC.out⟩, HB.out⟩
set_option maxHeartbeats 4000000 in
set_option maxRecDepth 100000 in
theorem three_any (w : World) : Calls Tryd.prog 24 #[] w fun e w' => (∃ A c, e = .returned (.slice A 3 c) ∧ Kd.C kLevel w' A 3 threeS) ∧ Below w.heap.size w w' := by
  have HC := hid_ (Kd.R_reads' (three_lit w)).2.2
  have HB := hid_ ((Below.refl w.heap.size w).alloc (Nat.le_refl _) (.cells #[.string ⟨#[51]⟩, .int .i64 3, .slice none 0 0, .int .i64 3, .int .i64 5, .string ⟨#[49]⟩, .int .i64 1, .slice none 0 0, .int .i64 2, .int .i64 3, .string ⟨#[97, 108, 108]⟩, .int .i64 0, .slice none 0 0, .int .i64 0, .int .i64 0] 41))
  go_enter Tryd.func24, Tryd.ntmps24
  go_wp2
  go_ret
  exact ⟨⟨_, _, rfl, HC.out⟩, HB.out⟩
theorem all2_next {xs ys : List Int} {k : Nat} (h : k < xs.length) (h' : k < ys.length) (he : xs.take k = ys.take k) (hx : xs[k] = ys[k]) : xs.take (k + 1) = ys.take (k + 1) := by
  rw [List.take_succ_eq_append_getElem h, List.take_succ_eq_append_getElem h', he, hx]
set_option maxHeartbeats 4000000 in
set_option maxRecDepth 100000 in
/-- letterbagkit.SameInts. -/
theorem sameInts_any (xs ys : List Int) (A B : Option Addr) (c c' : Nat) (w : World) (hX : Kd.C (Kd.int .i64) w A xs.length xs) (hY : Kd.C (Kd.int .i64) w B ys.length ys) :
    Calls Tryd.prog 20 #[.slice A xs.length c, .slice B ys.length c'] w fun e w' => e = .returned (.bool (decide (xs = ys))) ∧ Below w.heap.size w w' := by
  have hxl := hX.2.1
  have hyl := hY.2.1
  have HX := hid_ hX
  have HY := hid_ hY
  clear hX hY
  by_cases hl : xs.length = ys.length
  · have d1 : ((xs.length : Int) != (ys.length : Int)) = false := by simp; omega
    have HL := hid_ hl
    clear hl
    go_enter Tryd.func20, Tryd.ntmps20
    go_wp2
    go_loopw [5] (fun i wr => ∃ k : Nat, k ≤ xs.length ∧ i = .int .i64 k ∧ Hid (Below w.heap.size w wr) ∧ Hid (xs.take k = ys.take k)) (fun i _ => xs.length - (intOf i).toNat)
    case atStart => exact ⟨0, Nat.zero_le _, rfl, Below.refl _ _, by simp [Hid]⟩
    case round =>
      obtain ⟨k, hk, rfl, hB, hE⟩ := hrel
      by_cases hlt : k < xs.length
      · have hlt' : k < ys.length := by rw [← HL.out]; exact hlt
        obtain ⟨g, o, rfl, _, hg, x0⟩ := atInt HX.out hB.out k hlt
        obtain ⟨g2, o2, rfl, _, hg2, y0⟩ := atInt HY.out hB.out k hlt'
        have HBQ := hid_ (fun q => below_then hB.out hB.out.size (pw_below_drewN (Below.refl wr.heap.size wr) q))
        by_cases hz : xs[k] = ys[k]
        · have HN := hid_ (all2_next hlt hlt' hE.out hz)
          rw [hz] at x0
          clear hz
          go_wp2
          go_quiet (fail)
          go_wp2
          go_roundw
          case rel => exact ⟨k + 1, by omega, by go_num, HBQ.out _, HN.out⟩
          case measure => simp [intOf]; omega
        · have hzf : (xs[k] != ys[k]) = true := by simpa using hz
          have HF : Hid (decide (xs = ys) = false) := by
            rw [Hid, decide_eq_false_iff_not]
            intro e
            subst e
            exact hz rfl
          clear hz
          go_wp2
          go_quiet (fail)
          go_wp2
          go_ret
          exact ⟨by rw [HF.out]; rfl, HBQ.out _⟩
      · have HE : Hid (decide (xs = ys) = true) := by
          have h1 := hE.out
          rw [List.take_of_length_le (by omega), List.take_of_length_le (by have := HL.out; omega)] at h1
          rw [Hid, decide_eq_true_iff]
          exact h1
        go_wp2
        go_ret
        exact ⟨by rw [HE.out]; rfl, hB.out⟩
  · have d1 : ((xs.length : Int) != (ys.length : Int)) = true := by simp; omega
    have HF : Hid (decide (xs = ys) = false) := by
      rw [Hid, decide_eq_false_iff_not]
      intro e
      exact hl (by rw [e])
    rw [HF.out]
    clear hl
    go_enter Tryd.func20, Tryd.ntmps20
    go_wp2
    go_ret
    exact ⟨rfl, Below.refl _ _⟩
end Go.Proofs.YtejmlkfdkodabaaDoor
namespace Go.Proofs.YtejmlkfdkodabaaDoor
open Go.RowKit LB Go.Maps Go.Proofs.YtejmlkfdkodabaaDoorW.PrintWords

theorem pcs_len : ∀ (i : Nat) (cs : List ByteArray), (pcs i cs).length = cs.length
  | _, [] => rfl
  | i, _ :: r => by rw [pcs, List.length_cons, List.length_cons, pcs_len (i + 1) r]
theorem pcs_append : ∀ (i : Nat) (a b : List ByteArray), pcs i (a ++ b) = pcs i a ++ pcs (i + a.length) b
  | i, [], b => rfl
  | i, x :: r, b => by
    rw [List.cons_append, pcs, pcs, List.cons_append, pcs_append (i + 1) r b, List.length_cons, show i + (r.length + 1) = i + 1 + r.length by omega]
theorem pcs_next {cs : List ByteArray} {k : Nat} (h : k < cs.length) : pcs 0 (cs.take (k + 1)) = pcs 0 (cs.take k) ++ [pieceAt k cs[k]] := by
  rw [List.take_succ_eq_append_getElem h, pcs_append, pcs, pcs, Nat.zero_add, List.length_take, Nat.min_eq_left (by omega)]
def z10000 : ByteArray := ⟨#[49, 48, 48, 48, 48]⟩
set_option maxHeartbeats 4000000 in
set_option maxRecDepth 100000 in
theorem mail25R_any (cs : List ByteArray) (A : Option Addr) (c : Nat) (w : World) (hX : Kd.C Kd.string w A cs.length cs) (hm : cs.length ≤ 1000000) :
    Calls Tryd.prog 23 #[.slice A cs.length c] w fun e w' => (∃ A2 c2, e = .returned (.agg #[.int .u8 1, .int .u8 1, .string z10000, .slice A2 cs.length c2]) ∧ Kd.R kPiece 57 w' w.heap.size (fun _ => True) (.slice A2 cs.length c2) (pcs 0 cs)) ∧ Below w.heap.size w w' := by
  have HX := hid_ hX
  clear hX
  have H0 := hid_ (blk_new w (.cells #[.int .u8 0, .int .u8 0, .string ⟨#[]⟩, .slice none 0 0] 28))
  have H1 := hid_ (blk_new2 w (.cells #[.int .u8 0, .int .u8 0, .string ⟨#[]⟩, .slice none 0 0] 28) (.cells #[.int .u8 1, .int .u8 1, .string z10000, .slice none 0 0] 28))
  have H01 := hid_ (blk_alloc H0.out (.cells #[.int .u8 1, .int .u8 1, .string z10000, .slice none 0 0] 28))
  have HB := hid_ (((Below.refl w.heap.size w).alloc (Nat.le_refl _) (.cells #[.int .u8 0, .int .u8 0, .string ⟨#[]⟩, .slice none 0 0] 28)).alloc (by simp) (.cells #[.int .u8 1, .int .u8 1, .string z10000, .slice none 0 0] 28))
  go_enter Tryd.func23, Tryd.ntmps23
  go_wp2
  go_loopw [9] (fun i wr => ∃ (k : Nat) (v : Value), k ≤ cs.length ∧ i = .int .i64 k ∧ Hid (Below w.heap.size w wr) ∧ Hid (wr.heap[w.heap.size]? = some (.cells #[.int .u8 0, .int .u8 0, .string ⟨#[]⟩, .slice none 0 0] 28 (0, 0))) ∧ Hid (wr.heap[w.heap.size + 1]? = some (.cells #[.int .u8 1, .int .u8 1, .string z10000, v] 28 (0, 0))) ∧ Hid (Kd.R kPiece 57 wr (w.heap.size + 2) (fun _ => True) v (pcs 0 (cs.take k)))) (fun i _ => cs.length - (intOf i).toNat)
  case atStart => exact ⟨0, .slice none 0 0, Nat.zero_le _, rfl, HB.out, H01.out, H1.out, Kd.R_nil _ _ _ _ _⟩
  case round =>
    obtain ⟨k, v, hk, rfl, hB, h0, h1, hR⟩ := hrel
    obtain ⟨Av, cv, rfl⟩ := Kd.R_slice hR.out
    by_cases hlt : k < cs.length
    · obtain ⟨g, o, rfl, _, hg, x0⟩ := atStr HX.out hB.out k hlt
      have y3 := boxAt h1.out 3 rfl
      have HPM := hid_ (kPiece_mkM wr (w.heap.size + 2) (fun _ => False) (pieceAt k cs[k]))
      have HN := hid_ (pcs_next hlt)
      have HL := hid_ (pcs_len 0 (cs.take k))
      have hpl : (pcs 0 (cs.take k)).length ≤ 1000000 := by rw [HL.out, List.length_take]; omega
      have hws : w.heap.size + 2 ≤ wr.heap.size := by have := blk_lt h1.out; omega
      go_wp2_with (at_builtin; refine Kd.R_append kPiece (w0 := wr) (w.heap.size + 2) rfl (.tmp 15) (.tmp 23) 26 57 (.agg #[.int .i64 0, .int .i64 0, .string ⟨#[]⟩, .int .i64 0, .bool false]) 48 rfl Tryd.underlying26 infoPiece rfl (by decide) (by decide) _ (pcs 0 (cs.take k)) (pieceAt k cs[k]) _ (fun _ => True) (fun _ => False) rfl rfl HPM.out (fun _ hk => hk.elim) (fun _ _ => trivial) hR.out (Below.refl _ _) hws (by omega) ?_; intro v9 w9 ho9 hb9 hg9 hat9; obtain ⟨A9, c9, rfl⟩ := Kd.R_slice ho9; rw [List.length_append, List.length_singleton] at ho9; have HO9 := hid_ ho9; have HX0 := hid_ (blk_grown h0.out hg9 (fun e => by have := Kd.R_base hR.out _ e.symm; omega)); have HX1 := hid_ (blk_grown h1.out hg9 (fun e => by have := Kd.R_base hR.out _ e.symm; omega)); have HB9 := hid_ (hB.out.trans (hb9.mono (show w.heap.size ≤ w.heap.size + 2 by omega))); have y39 := boxAt HX1.out 3 rfl; have f39 := blk_frozen HX1.out 3; clear ho9 hb9 hg9 hat9)
      go_roundw
      case rel => exact ⟨k + 1, _, by omega, by go_num, below_set HB9.out (by omega), blk_far HX0.out (by simp) _, blk_put HX1.out 3 _ rfl, by rw [HN.out]; refine far_base HO9.out ?_ _; simp⟩
      case measure => simp [intOf]; omega
    · have he : cs.take k = cs := List.take_of_length_le (by omega)
      rw [he] at hR
      have HL := hid_ (pcs_len 0 cs)
      have y0 := boxAt h1.out 0 rfl
      have y1 := boxAt h1.out 1 rfl
      have y2 := boxAt h1.out 2 rfl
      have y3 := boxAt h1.out 3 rfl
      have z0 := boxAt h0.out 0 rfl
      have z1 := boxAt h0.out 1 rfl
      have z2 := boxAt h0.out 2 rfl
      have z3 := boxAt h0.out 3 rfl
      have q0 := blk_frozen h0.out 0
      have q1 := blk_frozen h0.out 1
      have q2 := blk_frozen h0.out 2
      have q3 := blk_frozen h0.out 3
      go_wp2
      have HBK := blk_put (blk_put (blk_put (blk_put h0.out 0 (.int .u8 1) rfl) 1 (.int .u8 1) rfl) 2 (.string z10000) rfl) 3 (.slice Av (pcs 0 cs).length cv) rfl
      have HR4 := far_base (far_base (far_base (far_base hR.out (p := ⟨w.heap.size, 0, none⟩) (by simp) (.int .u8 1)) (p := ⟨w.heap.size, 1, none⟩) (by simp) (.int .u8 1)) (p := ⟨w.heap.size, 2, none⟩) (by simp) (.string z10000)) (p := ⟨w.heap.size, 3, none⟩) (by simp) (.slice Av (pcs 0 cs).length cv)
      refine bodyPost_ret (results_cell_row rfl _ _ w.heap.size _ _ _ _ rfl HBK Tryd.underlying28 rfl (by kernel_rfl)) rfl ?_
      rw [HL.out] at HR4 ⊢
      exact ⟨⟨Av, cv, rfl, Kd.R_lower HR4 (by omega)⟩, below_set (below_set (below_set (below_set hB.out (Nat.le_refl _)) (Nat.le_refl _)) (Nat.le_refl _)) (Nat.le_refl _)⟩
theorem mail25_any (cs : List ByteArray) (A : Option Addr) (c : Nat) (w : World) (hX : Kd.C Kd.string w A cs.length cs) (hm : cs.length ≤ 1000000) :
    Calls Tryd.prog 23 #[.slice A cs.length c] w fun e w' => (∃ A2 c2, e = .returned (.agg #[.int .u8 1, .int .u8 1, .string z10000, .slice A2 cs.length c2]) ∧ cs.length ≤ c2 ∧ Kd.C kPiece w' A2 cs.length (pcs 0 cs)) ∧ Below w.heap.size w w' := by
  refine (mail25R_any cs A c w hX hm).mono ?_
  rintro e w' ⟨⟨A2, c2, rfl, hR⟩, hb⟩
  obtain ⟨_, h5, h6⟩ := Kd.R_reads' hR
  rw [pcs_len] at h6
  exact ⟨⟨A2, c2, rfl, h5, h6⟩, hb⟩
end Go.Proofs.YtejmlkfdkodabaaDoor
namespace Go.Proofs.YtejmlkfdkodabaaDoor
open Go.RowKit LB Go.Proofs.YtejmlkfdkodabaaDoorW.PrintWords

theorem lent_own {A : Option Addr} {n m c k : Nat} (h : (Value.slice A n c).ownBlock = some k) : (Value.slice A m c).ownBlock = some k := by
  cases A
  · simp [Value.ownBlock] at h
  · simpa [Value.ownBlock] using h
/-- A slice of the first of two lists; the second one's elements lie behind it. -/
def lent {α : Type} (e : Nat) (d : Kd α) : Kd (List α × List α) where
  sz := 1
  E := e :: d.E
  K := fun w xs cs => ∃ A c, cs = [.slice A xs.1.length c] ∧ (xs.1 ++ xs.2).length ≤ c ∧ d.C w A (xs.1 ++ xs.2).length (xs.1 ++ xs.2)
  M := fun w base ok xs cs => ∃ A c, cs = [.slice A xs.1.length c] ∧ d.R e w base ok (.slice A (xs.1 ++ xs.2).length c) (xs.1 ++ xs.2)
  K_len := by
    rintro w x cs ⟨A, c, rfl, _⟩
    rfl
  K_one := by
    rintro w x cs ⟨A, c, rfl, _⟩ u hu
    rw [List.mem_singleton.1 hu]
    rfl
  K_below := by
    rintro w w1 x cs hb ⟨A, c, rfl, hl, hr⟩
    exact ⟨A, c, rfl, hl, Kd.C_below hr hb⟩
  K_of_M := by
    rintro w base ok x cs ⟨A, c, rfl, h⟩
    obtain ⟨A', c', he, hl, hr⟩ := Kd.R_reads h
    injection he with h1 h2 h3
    subst h1
    subst h3
    exact ⟨A, c, rfl, hl, hr⟩
  M_mono := by
    rintro w base ok ok' x cs hok ⟨A, c, rfl, h⟩
    exact ⟨A, c, rfl, Kd.R_mono h hok⟩
  M_bound := by
    rintro w base ok x cs ⟨A, c, rfl, h⟩
    exact ⟨A, c, rfl, Kd.R_bound h⟩
  M_move := by
    rintro w w1 base ok x cs hm ⟨A, c, rfl, h⟩
    exact ⟨A, c, rfl, Kd.R_move h hm⟩
  M_lower := by
    rintro w base base' ok x cs hb ⟨A, c, rfl, h⟩
    exact ⟨A, c, rfl, Kd.R_lower h hb⟩
/-- A level with the labels behind its own ones. -/
def kLevelL : Kd (Level × List Label) := Kd.iso (Kd.pair Kd.string (Kd.pair (Kd.int .i64) (Kd.pair (lent 87 kLabel) (Kd.pair (Kd.int .i64) (Kd.int .i64))))) (fun x : Level × List Label => (x.1.name, x.1.pre, (x.1.labels, x.2), x.1.min, x.1.cents))
theorem kLevelL_open {w : World} {x : Level × List Label} {cs : List Value} (h : kLevelL.K w x cs) : ∃ A2 c2, cs = [.string x.1.name, .int .i64 x.1.pre, .slice A2 x.1.labels.length c2, .int .i64 x.1.min, .int .i64 x.1.cents] ∧ (x.1.labels ++ x.2).length ≤ c2 ∧ Kd.C kLabel w A2 (x.1.labels ++ x.2).length (x.1.labels ++ x.2) := by
  obtain ⟨_, _, rfl, rfl, ⟨_, _, rfl, rfl, ⟨_, _, rfl, ⟨A2, c2, rfl, l2, g2⟩, ⟨_, _, rfl, rfl, rfl⟩⟩⟩⟩ := h
  exact ⟨A2, c2, rfl, l2, g2⟩
theorem kLevelL_mkM (w : World) (base : Nat) (ok : Nat → Prop) (x : Level × List Label) {A2 : Option Addr} {c2 : Nat} (g2 : Kd.R kLabel 87 w base ok (.slice A2 (x.1.labels ++ x.2).length c2) (x.1.labels ++ x.2)) : kLevelL.M w base ok x [.string x.1.name, .int .i64 x.1.pre, .slice A2 x.1.labels.length c2, .int .i64 x.1.min, .int .i64 x.1.cents] :=
  ⟨[.string x.1.name], [.int .i64 x.1.pre, .slice A2 x.1.labels.length c2, .int .i64 x.1.min, .int .i64 x.1.cents], rfl, rfl, ⟨[.int .i64 x.1.pre], [.slice A2 x.1.labels.length c2, .int .i64 x.1.min, .int .i64 x.1.cents], rfl, rfl, ⟨[.slice A2 x.1.labels.length c2], [.int .i64 x.1.min, .int .i64 x.1.cents], rfl, ⟨A2, c2, rfl, g2⟩, ⟨[.int .i64 x.1.min], [.int .i64 x.1.cents], rfl, rfl, rfl⟩⟩⟩⟩
theorem atLevelL {w wr : World} {A : Option Addr} {n : Nat} {xs : List (Level × List Label)} (h : Kd.C kLevelL w A n xs) (hb : Below w.heap.size w wr) (k : Nat) (hk : k < xs.length) : ∃ g o A2 c2, A = some ⟨g, o, none⟩ ∧ g < w.heap.size ∧ g < wr.heap.size ∧ wr.cell? ⟨g, o + k * 5, none⟩ = some (.string xs[k].1.name) ∧ wr.cell? ⟨g, o + k * 5 + 1, none⟩ = some (.int .i64 xs[k].1.pre) ∧ wr.cell? ⟨g, o + k * 5 + 2, none⟩ = some (.slice A2 xs[k].1.labels.length c2) ∧ wr.cell? ⟨g, o + k * 5 + 3, none⟩ = some (.int .i64 xs[k].1.min) ∧ wr.cell? ⟨g, o + k * 5 + 4, none⟩ = some (.int .i64 xs[k].1.cents) ∧ (xs[k].1.labels ++ xs[k].2).length ≤ c2 ∧ Kd.C kLabel w A2 (xs[k].1.labels ++ xs[k].2).length (xs[k].1.labels ++ xs[k].2) := by
  obtain ⟨g, o, c, e, hg, hK, hc⟩ := at_any (d := kLevelL) h k hk (by decide)
  obtain ⟨A2, c2, rfl, l2, g2⟩ := kLevelL_open hK
  exact ⟨g, o, A2, c2, e, hg, Nat.lt_of_lt_of_le hg hb.size, cell_b hb (hc 0 _ rfl), cell_b hb (hc 1 _ rfl), cell_b hb (hc 2 _ rfl), cell_b hb (hc 3 _ rfl), cell_b hb (hc 4 _ rfl), l2, g2⟩
/-- The first elements of a row. -/
theorem C_take {α : Type} {d : Kd α} {w : World} {A : Option Addr} {xs ys : List α} (h : Kd.C d w A (xs ++ ys).length (xs ++ ys)) : Kd.C d w A xs.length xs := by
  obtain ⟨h1, h2, h3⟩ := h
  rw [List.length_append] at h2
  refine ⟨rfl, by omega, fun hp => ?_⟩
  obtain ⟨ad, e, h4⟩ := h3 (by rw [List.length_append]; omega)
  exact ⟨ad, e, fun k z hk => h4 k z (by rw [List.getElem?_append_left (List.getElem?_eq_some_iff.1 hk).1]; exact hk)⟩
theorem levels_of_lent {w : World} {A : Option Addr} {ls : List Level} {f : Level → List Label} (h : Kd.C kLevelL w A ls.length (ls.map fun x => (x, f x))) : Kd.C kLevel w A ls.length ls := by
  obtain ⟨h1, h2, h3⟩ := h
  refine ⟨rfl, h2, fun hp => ?_⟩
  obtain ⟨ad, e, h4⟩ := h3 hp
  refine ⟨ad, e, fun k z hk => ?_⟩
  obtain ⟨c, hc, hK, hcell⟩ := h4 k (z, f z) (by rw [List.getElem?_map, hk]; rfl)
  obtain ⟨A2, c2, rfl, l2, g2⟩ := kLevelL_open hK
  rw [List.length_append] at l2
  exact ⟨_, hc, kLevel_mk w z (by simp at l2 ⊢; omega) (C_take g2), hcell⟩
end Go.Proofs.YtejmlkfdkodabaaDoor
namespace Go.Proofs.YtejmlkfdkodabaaDoor
open Go.RowKit LB Go.Maps Go.Proofs.YtejmlkfdkodabaaDoorW.PrintWords

def mtext (i : Nat) : ByteArray := strOfNums [35, 1, 0, 0, 47, (i : Int), (i : Int) / 256, (i : Int) / 65536]
/-- A row of length nought with room behind it. -/
theorem row_room {α : Type} (d : Kd α) (W : World) (base e : Nat) (cells : Array Value) (c : Nat) (hb : base ≤ W.heap.size) (hs : cells.size = c * d.sz) (hm : c ≤ maxLen) :
    d.R e (W.alloc (.cells cells e)) base (fun _ => True) (.slice (some ⟨W.heap.size, 0, none⟩) 0 c) [] :=
  ⟨fun _ _ => trivial, [], ⟨by simp, .inr ⟨W.heap.size, c, cells, rfl, hb, heap_alloc_new W _, Nat.zero_le _, hm, hs, by simp⟩⟩, Reps.none _ _⟩
theorem run_room {P : Program} (t e : TypeId) (z : Value) (sz bytes : Nat) (ht : P.underlying t = some (.slice e)) (hinfo : (P.info? e).map (fun i => (i.zero, i.size, i.bytes)) = some (some z, sz, bytes)) (c : Nat) (hc : bytes * c ≤ 281474976710656) (h63 : c ≤ 281474976710656) (W : World) :
    (Instr.makeSlice t (.int .i64 0) (.int .i64 (c : Int))).run P W = .ok (.slice (some ⟨W.heap.size, 0, none⟩) 0 c) (W.alloc (.cells (madeCells z.cells (c * sz)) e)) := by
  obtain ⟨i0, hi, hzz⟩ := Option.map_eq_some_iff.1 hinfo
  simp only [Prod.mk.injEq] at hzz
  obtain ⟨hz0, hz1, hz2⟩ := hzz
  have hbc : (i0.bytes : Int) * (c : Int) ≤ 281474976710656 := by
    have h1 : ((bytes * c : Nat) : Int) ≤ 281474976710656 := by omega
    rw [Int.natCast_mul] at h1
    rw [hz2]
    exact h1
  have hr := run_make (P := P) W t e i0 z ht hi hz0 .i64 .i64 0 (c : Int) (by omega) (by omega) hbc (by omega)
  simp only [Int.toNat_natCast, hz1] at hr
  exact hr
theorem mk_take {α : Type} {xs ms : List α} {k : Nat} (h : k < ms.length) : xs ++ ms.take (k + 1) = (xs ++ ms.take k) ++ [ms[k]] := by
  rw [List.take_succ_eq_append_getElem h, List.append_assoc]
def imarks : List Int := (List.range 12).map fun i => 8000024 + ((i : Nat) : Int)
theorem imarks_len : imarks.length = 12 := rfl
theorem imarks_at {k : Nat} (h : k < imarks.length) : imarks[k] = 8000024 + (k : Int) := by simp [imarks]
def lmarks : List Label := (List.range 12).map fun i => ⟨noText, mtext i⟩
theorem lmarks_len : lmarks.length = 12 := rfl
theorem lmarks_at {k : Nat} (h : k < lmarks.length) : lmarks[k] = ⟨noText, mtext k⟩ := by simp [lmarks]
/-- A new slice with marks behind it. -/
def LentPost {α : Type} (d : Kd α) (e0 : Nat) (xs ms : List α) (w : World) (e : Ending) (w' : World) : Prop :=
  (∃ A c, e = .returned (.slice A xs.length c) ∧ Kd.R d e0 w' w.heap.size (fun _ => True) (.slice A (xs ++ ms).length c) (xs ++ ms)) ∧ Below w.heap.size w w'
end Go.Proofs.YtejmlkfdkodabaaDoor
