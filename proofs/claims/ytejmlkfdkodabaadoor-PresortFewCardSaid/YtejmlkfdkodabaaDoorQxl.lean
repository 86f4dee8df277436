/- Texts of one proof put together. presort.Plan: the contract. letterbaglaw25.saves, and what presort.Plan, Saving, Valid answer where all is right. The law's examples pass: awake answers true. The schemes and mailings that the laws make are right. Plain Lean. What a law knows of the scheme and the mailing that it has made; the calls on them. -/
import Derived.Test.YtejmlkfdkodabaaDoorQxk
import Derived.Deep.RegionLaw
import Derived.Test.YtejmlkfdkodabaaDoorQxg
import Derived.Test.YtejmlkfdkodabaaDoorQxi
import Derived.Test.YtejmlkfdkodabaaDoorQxh
namespace Go.Proofs.YtejmlkfdkodabaaDoor
open Go.RowKit LB Go.Maps Go.Sort Go.ChangeShapes Go.Shelf Go.Proofs.YtejmlkfdkodabaaDoorW.PrintWords

def PlanPost (ls : List Level) (m : Mailing) (w : World) (e : Ending) (w' : World) : Prop :=
  (if (presG ls m).2 = 0 then ∃ B cc, e = .returned (.tuple #[.slice (some ⟨B, 0, none⟩) m.pieces.length cc, .int .i64 0]) ∧ m.pieces.length ≤ cc ∧ w.heap.size ≤ B ∧ BelIs w' B m.pieces.length (planF (presG ls m).1 (passF ls (presG ls m).1 (presG ls m).1.length) (presG ls m).1.length)
   else e = .returned (.tuple #[.slice none 0 0, .int .i64 (presG ls m).2])) ∧ Below w.heap.size w w'
set_option maxHeartbeats 2000000 in
set_option maxRecDepth 100000 in
theorem plan_err (ls : List Level) (m : Mailing) (A A2 : Option Addr) (c c2 : Nat) (w : World) (hL : Kd.C kLevel w A ls.length ls) (hf : LFit ls) (hC : Kd.C kPiece w A2 m.pieces.length m.pieces) (hm : m.Fit) (h : (presG ls m).2 ≠ 0) :
    Calls Tryd.prog 16 #[.slice A ls.length c, .agg #[.int .u8 m.cls, .int .u8 m.country, .string m.origin, .slice A2 m.pieces.length c2]] w (PlanPost ls m w) := by
  have HB0 := hid_ ((Below.refl w.heap.size w).alloc (Nat.le_refl _) (.cells #[.int .u8 m.cls, .int .u8 m.country, .string m.origin, .slice A2 m.pieces.length c2] 28))
  have HX0 := hid_ (blk_new w (.cells #[.int .u8 m.cls, .int .u8 m.country, .string m.origin, .slice A2 m.pieces.length c2] 28))
  have x0 := boxAt HX0.out 0 rfl
  have x1 := boxAt HX0.out 1 rfl
  have x2 := boxAt HX0.out 2 rfl
  have x3 := boxAt HX0.out 3 rfl
  have HPG := hid_ (presgroups_any ls m A A2 c c2 _ (Kd.C_below hL HB0.out) hf (Kd.C_below hC HB0.out) hm)
  have HP : Hid (∀ e w', PlanPost ls m w e w' ↔ e = .returned (.tuple #[.slice none 0 0, .int .i64 (presG ls m).2]) ∧ Below w.heap.size w w') := fun e w' => by unfold PlanPost; rw [if_neg h]
  have d2 : ((presG ls m).2 != 0) = true := by simpa using h
  clear hL hC hf hm h
  go_enter Tryd.func16, Tryd.ntmps16
  go_wp2_with (go_at_call 35; refine HPG.out.mono ?_; rintro e w2 ⟨⟨A9, c9, rfl, hC9⟩, hb2⟩; have HB2 := hid_ (below_then HB0.out HB0.out.size hb2); clear hC9 hb2)
  go_ret2
  exact (HP.out _ _).2 ⟨rfl, HB2.out⟩
set_option maxHeartbeats 4000000 in
set_option maxRecDepth 100000 in
theorem plan_ok (ls : List Level) (m : Mailing) (A A2 : Option Addr) (c c2 : Nat) (w : World) (hL : Kd.C kLevel w A ls.length ls) (hf : LFit ls) (hC : Kd.C kPiece w A2 m.pieces.length m.pieces) (hm : m.Fit) (h : (presG ls m).2 = 0) :
    Calls Tryd.prog 16 #[.slice A ls.length c, .agg #[.int .u8 m.cls, .int .u8 m.country, .string m.origin, .slice A2 m.pieces.length c2]] w (PlanPost ls m w) := by
  have HB0 := hid_ ((Below.refl w.heap.size w).alloc (Nat.le_refl _) (.cells #[.int .u8 m.cls, .int .u8 m.country, .string m.origin, .slice A2 m.pieces.length c2] 28))
  have HX0 := hid_ (blk_new w (.cells #[.int .u8 m.cls, .int .u8 m.country, .string m.origin, .slice A2 m.pieces.length c2] 28))
  have x0 := boxAt HX0.out 0 rfl
  have x1 := boxAt HX0.out 1 rfl
  have x2 := boxAt HX0.out 2 rfl
  have x3 := boxAt HX0.out 3 rfl
  have hpg := (presgroups_any ls m A A2 c c2 _ (Kd.C_below hL HB0.out) hf (Kd.C_below hC HB0.out) hm).mono (R' := fun e w' => (∃ A9 c9, e = .returned (.tuple #[.slice A9 (presG ls m).1.length c9, .int .i64 0]) ∧ Kd.C kGroup w' A9 (presG ls m).1.length (presG ls m).1) ∧ Below (w.alloc (.cells #[.int .u8 m.cls, .int .u8 m.country, .string m.origin, .slice A2 m.pieces.length c2] 28)).heap.size (w.alloc (.cells #[.int .u8 m.cls, .int .u8 m.country, .string m.origin, .slice A2 m.pieces.length c2] 28)) w') (fun e w' h' => by
    obtain ⟨⟨A9, c9, h1, h2⟩, h3⟩ := h'
    rw [h] at h1
    exact ⟨⟨A9, c9, h1, h2⟩, h3⟩)
  have HPG := hid_ hpg
  have HL := hid_ hL
  obtain ⟨hr, hml, hgl, idx, hG⟩ := presG_gs h
  have HG := hid_ hG
  have HLV := hid_ (lvok_of hr)
  have hl6 : ls.length ≤ 6 := (right_iff.1 hr).2.1
  have HP : Hid (∀ e w', PlanPost ls m w e w' ↔ (∃ B cc, e = .returned (.tuple #[.slice (some ⟨B, 0, none⟩) m.pieces.length cc, .int .i64 0]) ∧ m.pieces.length ≤ cc ∧ w.heap.size ≤ B ∧ BelIs w' B m.pieces.length (planF (presG ls m).1 (passF ls (presG ls m).1 (presG ls m).1.length) (presG ls m).1.length)) ∧ Below w.heap.size w w') := fun e w' => by unfold PlanPost; rw [if_pos h]
  generalize PlanPost ls m w = PP at *
  generalize (presG ls m).1 = gs at *
  clear hL hC hf hm h hG hr hpg
  go_enter Tryd.func16, Tryd.ntmps16
  have hmk := fun W : World => run_make_tabs gs.length (by omega) W
  go_upto_region 6 with (go_at_call 35; refine HPG.out.mono ?_; rintro e w2 ⟨⟨A9, c9, rfl, hC9⟩, hb2⟩; have HB2 := hid_ hb2; have HC9 := hid_ hC9; clear hC9 hb2)
  obtain ⟨W3, hW3⟩ : ∃ W3, w2.alloc (.cells (madeCells #[.slice none 0 0, .slice none 0 0, .slice none 0 0] (gs.length * 3)) 79) = W3 := ⟨_, rfl⟩
  have HP1 : Hid (P1 gs w2 w2.heap.size 0 (fun _ => .slice none 0 0) W3) := by
    rw [← hW3]
    refine ⟨(Below.refl _ _).alloc (Nat.le_refl _) _, ⟨_, World.alloc_heap_new _ _, by simp [size_madeCells]; omega, fun j hj => ?_⟩, fun u hu => Kd.R_nil _ _ _ _ _, fun _ _ _ => rfl, fun _ _ _ _ _ => .inl rfl⟩
    have h3 : j % 3 = 0 ∨ j % 3 = 1 ∨ j % 3 = 2 := by omega
    have hj' : j < gs.length * 3 := by omega
    rcases h3 with e | e | e <;> simp [madeCells, hj', e]
  rw [hW3]
  clear hW3 hmk x0 x1 x2 x3 HPG
  go_loopw [37] (fun x wr => ∃ i : Nat, i ≤ gs.length ∧ x = .int .i64 i ∧ ∃ f, Hid (P1 gs w2 w2.heap.size i f wr)) (fun x _ => gs.length - (intOf x).toNat)
  case atStart => exact ⟨0, Nat.zero_le _, rfl, _, HP1.out⟩
  case round =>
    obtain ⟨i, hi, rfl, f, hP⟩ := hrel
    by_cases hlt : i < gs.length
    · obtain ⟨g, o, A3, c3, rfl, hg, hg', e0, e1, e2, e3, l3, g3⟩ := atGroup HC9.out hP.out.below i hlt
      have hat := gAt_get hlt
      have HBX := hid_ ((Below.refl wr.heap.size wr).alloc (Nat.le_refl _) (.cells #[.int .i64 gs[i].level, .string gs[i].name, .int .i64 gs[i].up, .slice A3 gs[i].items.length c3] 43))
      have HXB := hid_ (blk_new wr (.cells #[.int .i64 gs[i].level, .string gs[i].name, .int .i64 gs[i].up, .slice A3 gs[i].items.length c3] 43))
      rcases HG.out.up_cases hlt with hup | ⟨u, hu, hiu, hup⟩
      · have HN := hid_ ((hP.out.skip hup).later HBX.out)
        have hup' : gs[i].up = -1 := by rw [← hat]; exact hup
        have y2 := boxAt HXB.out 2 rfl
        rw [hup'] at e2 y2 HN HBX HXB
        clear hat hup hup'
        go_wp2
        go_roundw
        case rel => exact ⟨i + 1, by omega, by go_num, f, HN.out⟩
        case measure => simp [intOf]; omega
      · have hup' : gs[i].up = ((u : Nat) : Int) := by rw [← hat]; exact hup
        have y2 := boxAt HXB.out 2 rfl
        rw [hup'] at e2 y2 HBX HXB
        have HPR := hid_ ((hP.out.later HBX.out).later (below_drew (Below.refl _ _)))
        obtain ⟨q1, q2⟩ := HPR.out.tab.get (show 3 * u < 3 * gs.length by omega)
        have HRU := hid_ (HPR.out.rows u hu)
        have hz3 := hP.out.tab.lt
        have hzl := subsTo_len gs i u
        have huI : (u : Int) < (gs.length : Int) := by omega
        have HUP := hid_ hup
        obtain ⟨AU, cU, hfu⟩ := Kd.R_slice HRU.out
        rw [hfu, Nat.mul_comm 3 u] at q1
        have q1' : (wr.alloc (.cells #[.int .i64 gs[i].level, .string gs[i].name, .int .i64 (u : Int), .slice A3 gs[i].items.length c3] 43)).cell? ⟨w2.heap.size, u * 3, none⟩ = some (.slice AU ((subsTo gs i u).map ofN).length cU) := q1
        rw [List.length_map] at q1 q1'
        have HFU := hid_ hfu
        have hd : decide ((0 : Int) ≤ (u : Int)) = true := by simp
        clear hat hup hup' hfu
        have HOB : Hid (∀ k, (f (3 * u)).ownBlock = some k → w2.heap.size < k ∧ k < wr.heap.size) := fun k hk => ⟨Kd.R_base (hP.out.rows u hu) k hk, Kd.R_lt (hP.out.rows u hu) k hk⟩
        have HS0 := hid_ (fun W' (hB : Below (wr.alloc (.cells #[.int .i64 gs[i].level, .string gs[i].name, .int .i64 (u : Int), .slice A3 gs[i].items.length c3] 43)).heap.size (wr.alloc (.cells #[.int .i64 gs[i].level, .string gs[i].name, .int .i64 (u : Int), .slice A3 gs[i].items.length c3] 43)) W') => pw_cell_below hB y2)
        go_upto_region 9 with (fail)
        have hz9 := HS0.out _ (below_drew (Below.refl _ _))
        go_region_law (refine Kd.R_append_step (Kd.int .i64) (w0 := (wr.alloc (.cells #[.int .i64 gs[i].level, .string gs[i].name, .int .i64 (u : Int), .slice A3 gs[i].items.length c3] 43)).drew) (W := (wr.alloc (.cells #[.int .i64 gs[i].level, .string gs[i].name, .int .i64 (u : Int), .slice A3 gs[i].items.length c3] 43)).drew) (w2.heap.size + 1) rfl (.tmp 53) (.tmp 55) 38 3 (.int .i64 0) 8 rfl Tryd.underlying38 infoInt rfl (by decide) (by decide) (f (3 * u)) ((subsTo gs i u).map ofN) (i : Int) [.int .i64 (i : Int)] (fun _ => True) (fun _ => False) (by simp [Act.eval, HFU.out]) (by simp [Act.eval]) rfl (fun _ hk => hk.elim) (fun _ _ => trivial) HRU.out (Below.refl _ _) (by simp; omega) (by simp; omega) ?_; intro v1 w1 ho1 hb1 hg1 hat1; obtain ⟨A1, cA, hv1⟩ := Kd.R_slice ho1; rw [show ((subsTo gs i u).map ofN ++ [(i : Int)]).length = (subsTo gs i u).length + 1 from by simp] at hv1; subst hv1; have hTB := hg1.block w2.heap.size (by simp; omega) (fun e => (by have := (HOB.out _ e.symm).1; omega)); have hXB2 := hg1.block wr.heap.size (by simp) (fun e => (by have := (HOB.out _ e.symm).2; omega)); have ht1 := (HPR.out.tab.same hTB).get (show 3 * u < 3 * gs.length by omega); obtain ⟨h8, h9⟩ := ht1; rw [Nat.mul_comm 3 u] at h8 h9; have hpu := HPR.out.push (Nat.le_refl _) hu HUP.out ho1 (HPR.out.below.trans (hb1.mono (Nat.le_succ _))) hg1 hat1; have HS9 : Hid (w1.cell? ⟨wr.heap.size, 2, none⟩ = some (.int .i64 (u : Int))) := (World.cell?_of_block (a := ⟨wr.heap.size, 2, none⟩) hXB2).trans y2; rw [Nat.mul_comm 3 u] at hpu; have HPU := hid_ hpu; have hz91 := HS9.out; clear ho1 hb1 hg1 hat1 hTB hXB2 hpu)
        all_goals go_wp2
        all_goals exact ⟨⟨i + 1, by omega, by go_num, _, HPU.out⟩, by simp [intOf]; omega⟩
    · have hie : i = gs.length := by omega
      subst hie
      have HP2 := hid_ (P2.start (ls := ls) hP.out (by omega))
      clear hP HP1
      go_wp2
      obtain ⟨wa, rfl⟩ : ∃ wa : World, wa = wr := ⟨_, rfl⟩
      go_loopw [62] (fun x wr => ∃ i : Nat, i ≤ gs.length ∧ x = .int .i64 i ∧ ∃ f, Hid (P2 ls gs w2 w2.heap.size i f wr)) (fun x _ => gs.length - (intOf x).toNat)
      case atStart => exact ⟨0, Nat.zero_le _, rfl, _, HP2.out⟩
      case round =>
        obtain ⟨i, hi, rfl, f2, hQ⟩ := hrel
        by_cases hlt : i < gs.length
        · obtain ⟨g, o, A3, c3, rfl, hg, hg', e0, e1, e2, e3, l3, g3⟩ := atGroup HC9.out hQ.out.below i hlt
          obtain ⟨l, hl, hlv⟩ := HG.out.level hlt
          have hat := gAt_get hlt
          have hsz := HG.out.size_le hlt
          have HBX := hid_ ((Below.refl wr.heap.size wr).alloc (Nat.le_refl _) (.cells #[.int .i64 gs[i].level, .string gs[i].name, .int .i64 gs[i].up, .slice A3 gs[i].items.length c3] 43))
          have HXB := hid_ (blk_new wr (.cells #[.int .i64 gs[i].level, .string gs[i].name, .int .i64 gs[i].up, .slice A3 gs[i].items.length c3] 43))
          have hlv2 : gs[i].level = ((l : Nat) : Int) := by rw [← hat]; exact hlv
          rw [hlv2] at e0 HBX HXB
          rw [hat] at hsz
          obtain ⟨ga, oa, Al, cl, rfl, _, _, m0, m1, m2, m3, m4, ml, _⟩ := atLevel HL.out (below_then HB0.out HB0.out.size (below_then HB2.out HB2.out.size (hQ.out.below))) l hl
          have y0 := boxAt HXB.out 0 rfl
          have y1 := boxAt HXB.out 1 rfl
          have y2 := boxAt HXB.out 2 rfl
          have y3 := boxAt HXB.out 3 rfl
          have hlI : (l : Int) < (ls.length : Int) := by omega
          have hiI : (i : Int) < (gs.length : Int) := by omega
          clear hat
          obtain ⟨wl, hwl⟩ : ∃ wl, wr.alloc (.cells #[.int .i64 ((l : Nat) : Int), .string gs[i].name, .int .i64 gs[i].up, .slice A3 gs[i].items.length c3] 43) = wl := ⟨_, rfl⟩
          have k0 := cellB HBX.out m0
          have k1 := cellB HBX.out m1
          have k2 := cellB HBX.out m2
          have k3 := cellB HBX.out m3
          have k4 := cellB HBX.out m4
          have HQ := hid_ (hQ.out.later HBX.out)
          rw [hwl] at k0 k1 k2 k3 k4 y0 y1 y2 y3 HQ
          go_upto_region 14 with (fail)
          clear hwl
          go_still_tail 10, (by kernel_rfl)
          change wpList _ _ _ _ _ wl.drew
          have hmn : minAt ls ((l : Nat) : Int) = ls[l].min := by unfold minAt; rw [Int.toNat_natCast, List.getElem?_eq_getElem hl]
          have hcn : centsAt ls ((l : Nat) : Int) = ls[l].cents := by unfold centsAt; rw [Int.toNat_natCast, List.getElem?_eq_getElem hl]
          obtain ⟨a1, a2⟩ := HLV.out.cents ((l : Nat) : Int)
          obtain ⟨a3, a4⟩ := HLV.out.min ((l : Nat) : Int)
          rw [hcn] at a1 a2
          rw [hmn] at a3 a4
          have HQD := hid_ (HQ.out.later (below_drew (Below.refl _ _)))
          have HBT : Hid (bestT ls gs i = bestS (comeT ls gs i) ls[l].min ls[l].cents) := by
            rw [Hid, bestT_eq HG.out hlt, hlv, hmn, hcn]
            rfl
          rcases Nat.eq_zero_or_pos l with hl0 | hl0
          · have hns := HG.out.no_subs (i := i) (by rw [hlv, hl0]; rfl)
            have hct := comeT_low (ls := ls) (gs := gs) (i := i) (by rw [hlv, hl0]; rfl)
            rw [gAt_get hlt] at hct
            have hb := build_low w2.heap.size gs.length i gs.length gs[i].items.length gs[i].up gs[i].name ls[l].name A3 Al c3 cl ls[l].labels.length ls[l].pre ls[l].min ls[l].cents f2 wl.drew HQD.out.tab hlt (by omega) (by omega) a1 a2 a3 a4
            rw [show 3 * i = i * 3 from Nat.mul_comm 3 i] at hb
            have HBB := hid_ hb
            have HF := hid_ (And.intro hns (And.intro hct (And.intro hmn hcn)))
            have hl0' : ((l : Nat) : Int) = 0 := by omega
            rw [hl0']
            clear hns hct hmn hcn hb hl0 hlv hlv2
            go_wp2_with (go_at_call 36; refine HBB.out.mono ?_; rintro e w7 ⟨rfl, vb, G, cr, u, p1, p2, p3, p4, p5, p6⟩; have HN : Hid (∃ f9, P2 ls gs w2 w2.heap.size (i + 1) f9 w7) := ⟨_, HQD.out.build (Nat.le_refl _) hlt (vb := vb) (G := G) (cr := cr) (u := u) p6 (by rw [Nat.mul_comm i 3] at p1; rw [HF.out.1]; exact p1) (by rw [HBT.out, HF.out.2.1]; exact p2) p3 (by rw [HF.out.1]; exact p4) (fun j hj => (by rw [HF.out.1] at hj; exact absurd hj (by simp)))⟩; clear p1 p2 p3 p4 p5 p6)
            obtain ⟨f9, hf9⟩ := HN.out
            have HN9 := hid_ hf9
            clear hf9
            go_wp2
            go_roundw
            case rel => exact ⟨i + 1, by omega, by go_num, f9, HN9.out⟩
            case measure => simp [intOf]; omega
          · obtain ⟨l', rfl⟩ : ∃ l', l = l' + 1 := ⟨l - 1, by omega⟩
            obtain ⟨b1, b2, b3⟩ := subs_known HG.out HLV.out hlt hlv
            have hct := comeT_up (ls := ls) (gs := gs) (i := i) (by rw [hlv]; omega)
            rw [gAt_get hlt] at b2
            have hb := build_up w2.heap.size gs.length i gs.length gs[i].items.length (l' + 1) ((l' + 1 : Nat) : Int) gs[i].up gs[i].name ls[l' + 1].name A3 Al c3 cl ls[l' + 1].labels.length ls[l' + 1].pre ls[l' + 1].min ls[l' + 1].cents f2 (subsS gs i) (bestT ls gs) (fun c => (gAt gs c).items.length) wl.drew (by omega) HQD.out.tab hlt (HQD.out.subs i hlt) b1 (fun c hc => ⟨(b3 c hc).1, HQD.out.best c (b3 c hc).2.1, (b3 c hc).2.2⟩) (by omega) (by rw [b2]; omega) (by omega) a1 a2 a3 a4
            rw [show 3 * i = i * 3 from Nat.mul_comm 3 i] at hb
            have HBB := hid_ hb
            have HF := hid_ (And.intro hct (And.intro hmn hcn))
            clear hct hmn hcn hb hl0 hlv hlv2 b1 b2 b3
            go_wp2_with (go_at_call 36; refine HBB.out.mono ?_; rintro e w7 ⟨rfl, vb, G, cr, u, p1, p2, p3, p4, p5, p6⟩; have HN : Hid (∃ f9, P2 ls gs w2 w2.heap.size (i + 1) f9 w7) := ⟨_, HQD.out.build (Nat.le_refl _) hlt (vb := vb) (G := G) (cr := cr) (u := u) p6 (by rw [Nat.mul_comm i 3] at p1; exact p1) (by rw [HBT.out, HF.out.1]; exact p2) p3 p4 (fun j hj => (by have := p5 (j + 1) (by omega); rw [← List.map_drop] at this; exact this))⟩; clear p1 p2 p3 p4 p5 p6)
            obtain ⟨f9, hf9⟩ := HN.out
            have HN9 := hid_ hf9
            clear hf9
            go_wp2
            go_roundw
            case rel => exact ⟨i + 1, by omega, by go_num, f9, HN9.out⟩
            case measure => simp [intOf]; omega
        · have hie : i = gs.length := by omega
          subst hie
          obtain ⟨w5, rfl⟩ : ∃ w5 : World, w5 = wr := ⟨_, rfl⟩
          have HQ5 := hid_ hQ.out
          clear hQ HP2
          have hz5 := HQ5.out.below.size
          have hzT := HQ5.out.tab.lt
          go_wp2_with (at_make; refine Kd.R_make (Kd.int .i64) (w0 := w5) w5.heap.size 3 rfl (N := 81) rfl 38 _ _ rfl (gs.length : Int) rfl rfl Tryd.underlying38 (.int .i64 0) 8 infoInt rfl (by decide) (by omega) 0 (ok := fun _ => True) (okp := fun _ => True) rfl (fun _ hk => hk) trivial (by omega) (by omega) (Below.refl _ _) (Nat.le_refl _) ?_; intro v4 w4 ho4 hb4 hg4 hn4; obtain ⟨P, cP, rfl, hP0, hbel⟩ := bel_made ho4 hn4; rw [Int.toNat_natCast] at hbel; have HBEL := hid_ hbel; have HB4 := hid_ hb4; clear ho4 hb4 hg4 hn4 hbel)
          go_loopw [14] (fun x wr => ∃ j : Nat, j ≤ gs.length ∧ x = .int .i64 ((gs.length : Int) - 1 - j) ∧ Hid (Below w5.heap.size w5 wr) ∧ Hid (BelIs wr P gs.length (fun c => (passF ls gs j c : Int)))) (fun x _ => (intOf x + 1).toNat)
          case atStart => exact ⟨0, Nat.zero_le _, by simp, HB4.out, HBEL.out.congr (fun _ _ => rfl)⟩
          case round =>
            obtain ⟨j, hj, rfl, hB, hR⟩ := hrel
            by_cases hlt : j < gs.length
            · obtain ⟨i, HQ⟩ : ∃ i : Nat, Hid (gs.length = j + 1 + i) := ⟨gs.length - 1 - j, by rw [Hid]; omega⟩
              have hil : i < gs.length := by have := HQ.out; omega
              have HQI : Hid ((gs.length : Int) - 1 - j = (i : Int)) := by have := HQ.out; rw [Hid]; omega
              have HPI : Hid (PassI ls gs (i + 1) (passF ls gs j)) := by
                have h := passI_all HG.out HLV.out j hj
                rw [show gs.length - j = i + 1 from by have := HQ.out; omega] at h
                exact h
              obtain ⟨g, o, A3, c3, rfl, hg, hg', e0, e1, e2, e3, l3, g3⟩ := atGroup HC9.out (below_then HQ5.out.below hz5 hB.out) i hil
              obtain ⟨l, hl, hlv⟩ := HG.out.level hil
              have hat := gAt_get hil
              have hlv2 : gs[i].level = ((l : Nat) : Int) := by rw [← hat]; exact hlv
              rw [hlv2] at e0
              obtain ⟨ga, oa, Al, cl, rfl, _, _, m0, m1, m2, m3, m4, ml, _⟩ := atLevel HL.out (below_then HB0.out HB0.out.size (below_then HB2.out HB2.out.size (below_then HQ5.out.below hz5 hB.out))) l hl
              have hmn : minAt ls ((l : Nat) : Int) = ls[l].min := by unfold minAt; rw [Int.toNat_natCast, List.getElem?_eq_getElem hl]
              have hcn : centsAt ls ((l : Nat) : Int) = ls[l].cents := by unfold centsAt; rw [Int.toNat_natCast, List.getElem?_eq_getElem hl]
              obtain ⟨a1, a2⟩ := HLV.out.cents ((l : Nat) : Int)
              obtain ⟨a3, a4⟩ := HLV.out.min ((l : Nat) : Int)
              rw [hcn] at a1 a2
              rw [hmn] at a3 a4
              have htb := (tables_ok HG.out HLV.out hil hlv).2
              have hsz := HG.out.size_le hil
              have hpo := tat_lt (HPI.out.some i hil (by
                rcases HG.out.up_cases hil with e | ⟨x, _, h2, h3⟩
                · exact .inl e
                · exact .inr (by omega)))
              obtain ⟨G, cr, u, f1, f2', f3, f4⟩ := HQ5.out.rest i hil
              have HNX : Hid (passF ls gs (j + 1) = shareF (passF ls gs j i) ls[l].min ls[l].cents (tat (bestT ls gs i) (passF ls gs j i)) (bestT ls gs) (subsS gs i) 0 0 (passF ls gs j)) := by
                rw [Hid, passF, show gs.length - (j + 1) = i from by have := HQ.out; omega, shareI, hlv, hmn, hcn]
              have hsl : (subsS gs i).length ≤ 20000 := Nat.le_trans (subsTo_len gs gs.length i) (by omega)
              have HSH : Hid (Calls Tryd.prog 37 #[.slice (some ⟨w2.heap.size, 0, none⟩) gs.length gs.length, .slice (some ⟨P, 0, none⟩) gs.length cP, .int .i64 (i : Int), .agg #[.string ls[l].name, .int .i64 ls[l].pre, .slice Al ls[l].labels.length cl, .int .i64 ls[l].min, .int .i64 ls[l].cents]] wr fun e w' =>
                  e = .returned (.tuple #[]) ∧ wr.grownBy w' (some P) ∧ BelIs w' P gs.length (fun c => (shareF (passF ls gs j i) ls[l].min ls[l].cents (tat (bestT ls gs i) (passF ls gs j i)) (bestT ls gs) (subsS gs i) 0 0 (passF ls gs j) c : Int))) := by
                rcases Nat.eq_zero_or_pos l with hl0 | hl0
                · have hns := HG.out.no_subs (i := i) (by rw [hlv, hl0]; rfl)
                  exact share_any w2.heap.size gs.length gs.length P cP i ls[l].labels.length cl G cr 0 ls[l].name ls[l].pre ls[l].min ls[l].cents Al f2 u (subsS gs i) (bestT ls gs) (fun c => (gAt gs c).items.length) (bestT ls gs i) (passF ls gs j) w5 wr hB.out hP0 HQ5.out.tab hR.out hil (by omega) (HQ5.out.subs i hil) (subs_nodup gs i) (fun c hc => by rw [hns] at hc; cases hc) (by omega) (by rw [hns]; simp [sumOf]) hsl (HQ5.out.best i hil) hpo (by rw [htb.len]; omega) f1 f3 f4 (.inr hns) a1 a2 a3 a4
                · obtain ⟨l', rfl⟩ : ∃ l', l = l' + 1 := ⟨l - 1, by omega⟩
                  obtain ⟨b1, b2, b3⟩ := subs_known HG.out HLV.out hil hlv
                  have hcan := HPI.out.can HG.out HLV.out hil (by rw [hlv]; omega)
                  rw [hlv, hmn, hcn] at hcan
                  exact share_any w2.heap.size gs.length gs.length P cP i ls[l' + 1].labels.length cl G cr (l' + 1) ls[l' + 1].name ls[l' + 1].pre ls[l' + 1].min ls[l' + 1].cents Al f2 u (subsS gs i) (bestT ls gs) (fun c => (gAt gs c).items.length) (bestT ls gs i) (passF ls gs j) w5 wr hB.out hP0 HQ5.out.tab hR.out hil (by omega) (HQ5.out.subs i hil) (subs_nodup gs i) (fun c hc => ⟨(b3 c hc).1, by have := (b3 c hc).2.1; omega, HPI.out.none c (b3 c hc).1 (by have := (subs_mem.1 hc).2; omega), HQ5.out.best c (b3 c hc).1, (b3 c hc).2.2.1⟩) (by omega) (by rw [b2]; omega) hsl (HQ5.out.best i hil) hpo (by rw [htb.len]; omega) f1 f3 f4 (.inl hcan) a1 a2 a3 a4
              have hlI : (l : Int) < (ls.length : Int) := by omega
              have hiI : (i : Int) < (gs.length : Int) := by omega
              rw [HQI.out]
              clear hat hlv hlv2 hmn hcn htb hpo f1 f3 f4
              go_wp2_with (go_at_call 37; refine HSH.out.mono ?_; rintro e w7 ⟨rfl, p1, p2⟩; have HB7 := hid_ (hB.out.grown p1 hB.out.size (fun k e => (by injection e with e; omega))); have HR7 := hid_ p2; clear p1 p2)
              go_wp2
              go_roundw
              case rel => exact ⟨j + 1, by omega, by have := HQ.out; go_num, HB7.out, by rw [HNX.out]; exact HR7.out⟩
              case measure => simp [intOf]
            · have hje : j = gs.length := by omega
              subst hje
              obtain ⟨w6, rfl⟩ : ∃ w6 : World, w6 = wr := ⟨_, rfl⟩
              have HX6 := blk_below (blk_below (blk_below HX0.out HB2.out) HQ5.out.below) hB.out
              have x63 := boxAt HX6 3 rfl
              have HP6 := hid_ hR.out
              have hz6 := hB.out.size
              have HB6 := hid_ hB.out
              clear HX6 hB hR
              go_wp2_with (at_make; refine Kd.R_make (Kd.int .i64) (w0 := w6) w6.heap.size 3 rfl (N := 104) rfl 38 _ _ rfl (m.pieces.length : Int) rfl rfl Tryd.underlying38 (.int .i64 0) 8 infoInt rfl (by decide) (by omega) 0 (ok := fun _ => True) (okp := fun _ => True) rfl (fun _ hk => hk) trivial (by omega) (by omega) (Below.refl _ _) (Nat.le_refl _) ?_; intro v8 w8 ho8 hb8 hg8 hn8; obtain ⟨Q, cQ, rfl, hQ0, hbel8⟩ := bel_made ho8 hn8; rw [Int.toNat_natCast] at hbel8; have hcQ := (Kd.R_reads' ho8).2.1; rw [Int.toNat_natCast] at hcQ; have HBEL8 := hid_ hbel8; have HB8 := hid_ hb8; clear ho8 hb8 hg8 hn8 hbel8)
              go_loopw [107] (fun x wr => ∃ i : Nat, i ≤ gs.length ∧ x = .int .i64 i ∧ Hid (Below w6.heap.size w6 wr) ∧ Hid (BelIs wr Q m.pieces.length (planF gs (passF ls gs gs.length) i))) (fun x _ => gs.length - (intOf x).toNat)
              case atStart => exact ⟨0, Nat.zero_le _, rfl, HB8.out, HBEL8.out.congr (fun _ _ => rfl)⟩
              case round =>
                obtain ⟨i, hi, rfl, hB, hR⟩ := hrel
                by_cases hlt : i < gs.length
                · obtain ⟨g, o, A3, c3, rfl, hg, hg', e0, e1, e2, e3, l3, g3⟩ := atGroup HC9.out (below_then HQ5.out.below hz5 (below_then HB6.out HB6.out.size hB.out)) i hlt
                  obtain ⟨l, hl, hlv⟩ := HG.out.level hlt
                  have hat := gAt_get hlt
                  have hlv2 : gs[i].level = ((l : Nat) : Int) := by rw [← hat]; exact hlv
                  have hsz := HG.out.size_le hlt
                  rw [hat] at hsz
                  have HLG : Hid (Below w2.heap.size w2 wr) := below_then HQ5.out.below hz5 (below_then HB6.out HB6.out.size hB.out)
                  have HG3 := hid_ (Kd.C_below g3 HLG.out)
                  obtain ⟨pc1, pc2⟩ := plan_come HG.out HLV.out hlt
                  have HPC := hid_ pc2
                  have hppl := (planI_all HG.out HLV.out i (by omega)).nn
                  have HNN := hid_ hppl
                  have HIT : Hid (∀ z ∈ gs[i].items, 0 ≤ z ∧ z < (m.pieces.length : Int)) := fun z hz => by
                    obtain ⟨l9, k9, q1, q2, q3, q4⟩ := HG.out.its hlt
                    rw [hat] at q4
                    rw [q4] at hz
                    obtain ⟨k, hk, rfl⟩ := List.mem_map.1 hz
                    have := List.mem_range.1 (List.mem_filter.1 hk).1
                    unfold ofN
                    omega
                  have HND : Hid (gs[i].items.Nodup) := by
                    obtain ⟨l9, k9, q1, q2, q3, q4⟩ := HG.out.its hlt
                    rw [hat] at q4
                    rw [Hid, q4]
                    refine List.Pairwise.map ofN (fun a b (hab : a ≠ b) => ?_) (List.nodup_range.filter _)
                    show ofN a ≠ ofN b
                    unfold ofN
                    omega
                  have hcl : comeL gs (planF gs (passF ls gs gs.length) i) i = gs[i].items.filter (fun z => planF gs (passF ls gs gs.length) i z.toNat == ((l : Nat) : Int)) := by unfold comeL; rw [hat, hlv2]
                  have HCL := hid_ hcl
                  have HPN : Hid (planF gs (passF ls gs gs.length) (i + 1) = giveF (planF gs (passF ls gs gs.length) i) ((comeL gs (planF gs (passF ls gs gs.length) i) i).drop ((comeL gs (planF gs (passF ls gs gs.length) i) i).length - passF ls gs gs.length i))) := rfl
                  generalize comeL gs (planF gs (passF ls gs gs.length) i) i = come at *
                  generalize planF gs (passF ls gs gs.length) i = pl at *
                  generalize hits : gs[i].items = its at *
                  rw [hlv2] at e0
                  have HBX := hid_ ((Below.refl wr.heap.size wr).alloc (Nat.le_refl _) (.cells #[.int .i64 ((l : Nat) : Int), .string gs[i].name, .int .i64 gs[i].up, .slice A3 its.length c3] 43))
                  have HXB := hid_ (blk_new wr (.cells #[.int .i64 ((l : Nat) : Int), .string gs[i].name, .int .i64 gs[i].up, .slice A3 its.length c3] 43))
                  have y3 := boxAt HXB.out 3 rfl
                  obtain ⟨wl, hwl⟩ : ∃ wl, wr.alloc (.cells #[.int .i64 ((l : Nat) : Int), .string gs[i].name, .int .i64 gs[i].up, .slice A3 its.length c3] 43) = wl := ⟨_, rfl⟩
                  have hwz : wl.heap.size = wr.heap.size + 1 := by rw [← hwl]; simp
                  rw [hwl] at y3 HBX HXB
                  have HG4 := hid_ (Kd.C_below HG3.out HBX.out)
                  have HRL := hid_ (hR.out.below HBX.out)
                  have HBL := hid_ (below_then hB.out hB.out.size HBX.out)
                  have hQl := hR.out.lt
                  clear hcl pc1 pc2 hppl hlv hat hits hlv2 g3 HG3
                  go_upto_region 27 with (fail)
                  clear hwl
                  have hllI := hl
                  go_loopw [18, 115] (fun v x W => ∃ t : Nat, t ≤ its.length ∧ x = .int .i64 t ∧ Hid (Below wl.heap.size wl W) ∧ Hid (Kd.R (Kd.int .i64) 3 W wl.heap.size (fun _ => True) v ((its.take t).filter (fun z => pl z.toNat == ((l : Nat) : Int)))) ∧ Hid ((its.take t).filter (fun z => pl z.toNat == ((l : Nat) : Int)) = [] → v = .slice none 0 0)) (fun _ x _ => its.length - (intOf x).toNat)
                  case atStart => exact ⟨0, Nat.zero_le _, rfl, Below.refl _ _, Kd.R_nil _ _ _ _ _, fun _ => rfl⟩
                  case round =>
                    obtain ⟨wi, rfl⟩ : ∃ wi : World, wi = wr := ⟨_, rfl⟩
                    obtain ⟨t, ht, rfl, hBi, hRi, hNi⟩ := hrel
                    by_cases hlt5 : t < its.length
                    · obtain ⟨g5, o5, rfl, hg5, _, z0⟩ := atInt HG4.out hBi.out t hlt5
                      obtain ⟨b0, b1⟩ := HIT.out its[t] (List.getElem_mem hlt5)
                      obtain ⟨k, hk⟩ := Int.eq_ofNat_of_zero_le b0
                      have HTK : Hid ((its.take (t + 1)).filter (fun z => pl z.toNat == ((l : Nat) : Int)) = (its.take t).filter (fun z => pl z.toNat == ((l : Nat) : Int)) ++ (if pl k = ((l : Nat) : Int) then [((k : Nat) : Int)] else [])) := by
                        rw [Hid, List.take_succ_eq_append_getElem hlt5, List.filter_append, hk]
                        congr 1
                        by_cases e : pl k = ((l : Nat) : Int)
                        · rw [if_pos e]; simp [e]
                        · rw [if_neg e]; simp [e]
                      rw [hk] at z0 b1
                      have hkm : k < m.pieces.length := by omega
                      clear hk b0
                      obtain ⟨n1, n2⟩ := (HRL.out.below hBi.out).get hkm
                      have y0 := boxAt (blk_below HXB.out hBi.out) 0 rfl
                      have hkI : (k : Int) < (m.pieces.length : Int) := by omega
                      have hvs := Kd.R_slice hRi.out
                      obtain ⟨Av, cv, rfl⟩ := hvs
                      have hfl : ((its.take t).filter (fun z => pl z.toNat == ((l : Nat) : Int))).length ≤ 2000 := Nat.le_trans (List.length_filter_le _ _) (by simp; omega)
                      by_cases hz : pl k = ((l : Nat) : Int)
                      · rw [if_pos hz] at HTK
                        rw [hz] at n1
                        have HBQ := hid_ (fun q => below_then hBi.out hBi.out.size (pw_below_drewN (Below.refl wi.heap.size wi) q))
                        have HRQ := hid_ (fun q => Kd.R_drewN hRi.out q)
                        clear hz
                        go_wp2
                        go_quiet (fail)
                        go_wp2_with (at_builtin; refine Kd.R_append (Kd.int .i64) (w0 := wl) wl.heap.size rfl (.tmp 126) (.tmp 128) 38 3 (.int .i64 0) 8 rfl Tryd.underlying38 infoInt rfl (by decide) (by decide) _ ((its.take t).filter (fun z => pl z.toNat == ((l : Nat) : Int))) ((k : Nat) : Int) [.int .i64 ((k : Nat) : Int)] (fun _ => True) (fun _ => False) rfl rfl rfl (fun _ hk => hk.elim) (fun _ _ => trivial) (HRQ.out _) (HBQ.out _) (HBQ.out _).size (by omega) ?_; intro v9 w9 ho9 hb9 hg9 hat9; have HO9 := hid_ ho9; have HB9 := hid_ hb9; clear ho9 hb9 hg9 hat9)
                        go_roundw
                        case rel => exact ⟨t + 1, by omega, by go_num, HB9.out, by rw [HTK.out]; exact HO9.out, fun e => by rw [HTK.out] at e; simp at e⟩
                        case measure => simp [intOf]; omega
                      · rw [if_neg hz, List.append_nil] at HTK
                        have hzf : (pl k == ((l : Nat) : Int)) = false := int_eq_f hz
                        have HBQ := hid_ (fun q => below_then hBi.out hBi.out.size (pw_below_drewN (Below.refl wi.heap.size wi) q))
                        have HRQ := hid_ (fun q => Kd.R_drewN hRi.out q)
                        clear hz
                        go_wp2
                        go_quiet (fail)
                        go_wp2
                        go_roundw
                        case rel => exact ⟨t + 1, by omega, by go_num, HBQ.out _, by rw [HTK.out]; exact HRQ.out _, by rw [HTK.out]; exact hNi.out⟩
                        case measure => simp [intOf]; omega
                    · have hte : its.take t = its := List.take_of_length_le (by omega)
                      rw [hte, ← HCL.out] at hRi hNi
                      have hBP := below_then hBi.out hBi.out.size (Below.refl wi.heap.size wi)
                      have hB6i := hid_ (below_then HBL.out HBL.out.size hBi.out)
                      obtain ⟨r1, r2⟩ := (HP6.out.below hB6i.out).get hlt
                      have hRQ := hid_ (HRL.out.below hBi.out)
                      have hpc := HPC.out
                      obtain ⟨lo, HLO⟩ : ∃ lo : Nat, Hid (come.length = lo + passF ls gs gs.length i) := ⟨come.length - passF ls gs gs.length i, by rw [Hid]; omega⟩
                      have HLI : Hid ((come.length : Int) - ((passF ls gs gs.length i : Nat) : Int) = (lo : Int)) := by have := HLO.out; rw [Hid]; omega
                      have HLS : Hid (come.length - passF ls gs gs.length i = lo) := by have := HLO.out; rw [Hid]; omega
                      have hcml : come.length ≤ 2000 := by rw [HCL.out]; exact Nat.le_trans (Nat.le_trans (List.length_filter_le _ _) hsz) hml
                      have hiI : (i : Int) < (gs.length : Int) := by omega
                      rw [HLS.out] at HPN
                      generalize passF ls gs gs.length i = pp at *
                      have hli := HLI.out
                      have hll : lo ≤ come.length := by have := HLO.out; omega
                      have hlsub : come.length - lo = pp := by have := HLO.out; omega
                      clear hte hBP
                      rcases Nat.eq_zero_or_pos come.length with hc0 | hc0
                      · have hcn : come = [] := List.length_eq_zero_iff.1 hc0
                        have hv := hNi.out hcn
                        subst hv
                        have hp0 : pp = 0 := by omega
                        have hl0 : lo = 0 := by omega
                        have HFX : Hid (BelIs wi Q m.pieces.length (planF gs (passF ls gs gs.length) (i + 1))) := by
                          rw [Hid, HPN.out, hcn]
                          exact hRQ.out.congr (fun q _ => by simp [giveF])
                        rw [hp0] at r1
                        clear hcn hc0 hlsub hll hli hp0 hl0
                        go_wp2
                        go_loopw [141] (fun x W => x = .int .i64 0 ∧ W = wi) (fun _ _ => 0)
                        case atStart => exact ⟨rfl, rfl⟩
                        case round =>
                          obtain ⟨rfl, rfl⟩ := hrel
                          go_wp2
                          go_roundw
                          case rel => exact ⟨i + 1, by omega, by go_num, hB6i.out, HFX.out⟩
                          case measure => simp [intOf]; omega
                      · obtain ⟨Bc, cc, hv, hBc, hcc, hbc⟩ := bel_of_R hRi.out hc0
                        subst hv
                        have hBQ : Bc ≠ Q := by omega
                        rcases Nat.eq_zero_or_pos pp with hp0 | hp0
                        · have HFX : Hid (BelIs wi Q m.pieces.length (planF gs (passF ls gs gs.length) (i + 1))) := by
                            rw [Hid, HPN.out, List.drop_of_length_le (by omega)]
                            exact hRQ.out.congr (fun q _ => by simp [giveF])
                          have hloc : lo = come.length := by omega
                          have hwsub : IntKind.i64.wrap ((come.length : Int) - (0 : Int)) = (come.length : Int) := by rw [Int.sub_zero]; exact IntWalk.i64_in _ (by omega)
                          rw [hp0] at r1
                          subst hloc
                          clear hlsub hll hli hp0
                          by_cases hcl : cc = come.length
                          · go_wp2
                            go_loopw [141] (fun x W => x = .int .i64 0 ∧ W = wi) (fun _ _ => 0)
                            case atStart => exact ⟨rfl, rfl⟩
                            case round =>
                              obtain ⟨rfl, rfl⟩ := hrel
                              go_wp2
                              go_roundw
                              case rel => exact ⟨i + 1, by omega, by go_num, hB6i.out, HFX.out⟩
                              case measure => simp [intOf]; omega
                          · go_wp2
                            go_loopw [141] (fun x W => x = .int .i64 0 ∧ W = wi) (fun _ _ => 0)
                            case atStart => exact ⟨rfl, rfl⟩
                            case round =>
                              obtain ⟨rfl, rfl⟩ := hrel
                              go_wp2
                              go_roundw
                              case rel => exact ⟨i + 1, by omega, by go_num, hB6i.out, HFX.out⟩
                              case measure => simp [intOf]; omega
                        · have hcl : ¬ cc = lo := by omega
                          have hlo2 : lo ≤ cc := by omega
                          have HNDC : Hid ((come.drop lo).Nodup) := by
                            rw [Hid, HCL.out]
                            exact (HND.out.filter _).sublist (List.drop_sublist _ _)
                          have HMEM : Hid (∀ z ∈ come, 0 ≤ z ∧ z < (m.pieces.length : Int)) := fun z hz => HIT.out z (by rw [HCL.out] at hz; exact (List.mem_filter.1 hz).1)
                          have hBcl := hbc.lt
                          have HBC := hid_ hbc
                          clear hbc
                          go_wp2
                          go_loopw [141] (fun x W => ∃ t : Nat, t ≤ pp ∧ x = .int .i64 t ∧ Hid (wi.grownBy W (some Q)) ∧ Hid (BelIs W Q m.pieces.length (fun q => if ofN q ∈ (come.drop lo).take t then pl q + 1 else pl q))) (fun x _ => pp - (intOf x).toNat)
                          case atStart => exact ⟨0, Nat.zero_le _, rfl, World.grownBy.refl _ _, hRQ.out.congr (fun q _ => by simp)⟩
                          case round =>
                            obtain ⟨t6, ht6, rfl, hG6, hR6⟩ := hrel
                            by_cases hlt6 : t6 < pp
                            · have hix : lo + t6 < come.length := by omega
                              obtain ⟨b1, b2⟩ := (HBC.out.same (grown_same hG6.out hBcl hBQ)).get hix
                              rw [getI hix] at b1
                              obtain ⟨d1, d2⟩ := HMEM.out come[lo + t6] (List.getElem_mem hix)
                              obtain ⟨k, hk⟩ := Int.eq_ofNat_of_zero_le d1
                              have hdl : t6 < (come.drop lo).length := by rw [List.length_drop]; omega
                              have HTK : Hid ((come.drop lo).take (t6 + 1) = (come.drop lo).take t6 ++ [((k : Nat) : Int)]) := by
                                rw [Hid, List.take_succ_eq_append_getElem hdl, List.getElem_drop, hk]
                              have HNI : Hid (¬ ofN k ∈ (come.drop lo).take t6) := fun hm6 => by
                                have hn := HNDC.out
                                rw [← List.take_append_drop (t6 + 1) (come.drop lo), HTK.out] at hn
                                have h1 := (List.nodup_append.1 hn).1
                                rw [List.nodup_append] at h1
                                exact h1.2.2 _ hm6 _ List.mem_cons_self rfl
                              rw [hk] at b1 d2
                              have hkm : k < m.pieces.length := by omega
                              obtain ⟨n1, n2⟩ := hR6.out.get hkm
                              rw [if_neg HNI.out] at n1
                              obtain ⟨u1, u2⟩ := HNN.out k
                              have HSET := hid_ (hR6.out.set hkm (pl k + 1))
                              have HFF : Hid (∀ q, (if q = k then pl k + 1 else if ofN q ∈ (come.drop lo).take t6 then pl q + 1 else pl q) = if ofN q ∈ (come.drop lo).take (t6 + 1) then pl q + 1 else pl q) := fun q => by
                                rw [HTK.out]
                                by_cases e : q = k
                                · subst e
                                  rw [if_pos rfl, if_pos (List.mem_append_right _ (by unfold ofN; exact List.mem_cons_self))]
                                · rw [if_neg e]
                                  by_cases e' : ofN q ∈ (come.drop lo).take t6
                                  · rw [if_pos e', if_pos (List.mem_append_left _ e')]
                                  · rw [if_neg e', if_neg (fun h => by
                                      rcases List.mem_append.1 h with h | h
                                      · exact e' h
                                      · have := List.mem_singleton.1 h
                                        unfold ofN at this
                                        omega)]
                              have HR9 := hid_ (HSET.out.congr (fun q _ => HFF.out q))
                              have hG9 := hid_ (grown_far hG6.out (.inl rfl : (⟨Q, k, none⟩ : Addr).block = Q ∨ _) (.int .i64 (pl k + 1)))
                              have hkI : (k : Int) < (m.pieces.length : Int) := by omega
                              have htI : (t6 : Int) < (pp : Int) := by omega
                              clear hk d1 hdl
                              go_wp2
                              go_roundw
                              case rel => exact ⟨t6 + 1, by omega, by go_num, hG9.out, HR9.out⟩
                              case measure => simp [intOf]; omega
                            · have hte6 : (come.drop lo).take t6 = come.drop lo := List.take_of_length_le (by rw [List.length_drop]; omega)
                              have HFX : Hid (BelIs wr Q m.pieces.length (planF gs (passF ls gs gs.length) (i + 1))) := by
                                rw [Hid, HPN.out]
                                have h9 := hR6.out
                                rw [hte6] at h9
                                exact h9.congr (fun q _ => rfl)
                              have HBF := hid_ (hB6i.out.grown hG6.out hB6i.out.size (fun k e => by injection e with e; omega))
                              have htp : t6 = pp := by omega
                              clear hte6
                              go_wp2
                              go_roundw
                              case rel => exact ⟨i + 1, by omega, by go_num, HBF.out, HFX.out⟩
                              case measure => simp [intOf]; omega
                · have hie : i = gs.length := by omega
                  subst hie
                  have HFIN := hid_ ((HP.out (.returned (.tuple #[.slice (some ⟨Q, 0, none⟩) m.pieces.length cQ, .int .i64 0])) wr).2 ⟨⟨Q, cQ, rfl, hcQ, Nat.le_trans (Nat.le_trans HB0.out.size (Nat.le_trans HB2.out.size (Nat.le_trans hz5 hz6))) hQ0, hR.out⟩, below_then HB0.out HB0.out.size (below_then HB2.out HB2.out.size (below_then HQ5.out.below hz5 (below_then HB6.out HB6.out.size hB.out)))⟩)
                  go_wp2
                  exact HFIN.out
/-- presort.Plan. -/
theorem plan_any (ls : List Level) (m : Mailing) (A A2 : Option Addr) (c c2 : Nat) (w : World) (hL : Kd.C kLevel w A ls.length ls) (hf : LFit ls) (hC : Kd.C kPiece w A2 m.pieces.length m.pieces) (hm : m.Fit) :
    Calls Tryd.prog 16 #[.slice A ls.length c, .agg #[.int .u8 m.cls, .int .u8 m.country, .string m.origin, .slice A2 m.pieces.length c2]] w (PlanPost ls m w) := by
  by_cases h : (presG ls m).2 = 0
  · exact plan_ok ls m A A2 c c2 w hL hf hC hm h
  · exact plan_err ls m A A2 c c2 w hL hf hC hm h
end Go.Proofs.YtejmlkfdkodabaaDoor
namespace Go.Proofs.YtejmlkfdkodabaaDoor
open Go.RowKit LB Go.Maps Go.Proofs.YtejmlkfdkodabaaDoorW.PrintWords

def PlanIn (ls : List Level) (m : Mailing) (w : World) (e : Ending) (w' : World) : Prop :=
  (∃ B cc, e = .returned (.tuple #[.slice (some ⟨B, 0, none⟩) m.pieces.length cc, .int .i64 0]) ∧ m.pieces.length ≤ cc ∧ w.heap.size ≤ B ∧ BelIs w' B m.pieces.length (plOf (planP ls m)) ∧ Kd.C (Kd.int .i64) w' (some ⟨B, 0, none⟩) m.pieces.length (planP ls m)) ∧ Below w.heap.size w w'
theorem splan_any {ls : List Level} {m : Mailing} (h : PresOk ls m) (A A2 : Option Addr) (c c2 : Nat) (w : World) (hL : Kd.C kLevel w A ls.length ls) (hf : LFit ls) (hC : Kd.C kPiece w A2 m.pieces.length m.pieces) (hm : m.Fit) :
    Calls Tryd.prog 16 #[.slice A ls.length c, .agg #[.int .u8 m.cls, .int .u8 m.country, .string m.origin, .slice A2 m.pieces.length c2]] w (PlanIn ls m w) := by
  refine (plan_any ls m A A2 c c2 w hL hf hC hm).mono ?_
  rintro e w' ⟨hp, hb⟩
  rw [if_pos (presOk_iff.2 h)] at hp
  obtain ⟨B, cc, rfl, h1, h2, h3⟩ := hp
  have h4 := h.many
  have h5 : BelIs w' B m.pieces.length (plOf (planP ls m)) := by
    obtain ⟨cells, a1, a2, a3⟩ := h3
    exact ⟨cells, a1, a2, fun i hi => by rw [a3 i hi, planP_at ls m hi]; rfl⟩
  have h6 := h5.readsF (by omega)
  have e : (List.range m.pieces.length).map (plOf (planP ls m)) = planP ls m := by
    have := list_plOf (planP ls m)
    rwa [planP_len] at this
  rw [e] at h6
  exact ⟨⟨B, cc, rfl, h1, h2, h5, h6⟩, hb⟩
set_option maxHeartbeats 4000000 in
set_option maxRecDepth 100000 in
theorem lsaves_any {ls : List Level} {m : Mailing} (h : PresOk ls m) (A A2 : Option Addr) (c c2 : Nat) (w : World) (hL : Kd.C kLevel w A ls.length ls) (hf : LFit ls) (hC : Kd.C kPiece w A2 m.pieces.length m.pieces) (hm : m.Fit) :
    Calls Tryd.prog 14 #[.slice A ls.length c, .agg #[.int .u8 m.cls, .int .u8 m.country, .string m.origin, .slice A2 m.pieces.length c2]] w fun e w' => e = .returned (.int .i64 (centsSum ls (planP ls m))) ∧ Below w.heap.size w w' := by
  have hmany := h.many
  have HB0 := hid_ (below_alloc (Below.refl _ w) (.cells #[.int .u8 m.cls, .int .u8 m.country, .string m.origin, .slice A2 m.pieces.length c2] 28))
  have HX0 := hid_ (blk_new w (.cells #[.int .u8 m.cls, .int .u8 m.country, .string m.origin, .slice A2 m.pieces.length c2] 28))
  have HP := hid_ (fun (W : World) (hW : Below w.heap.size w W) => splan_any h A A2 c c2 W (Kd.C_below hL hW) hf (Kd.C_below hC hW) hm)
  have HS : Hid (∀ (W : World) (B : Option Addr) (cc : Nat), Below w.heap.size w W → Kd.C (Kd.int .i64) W B m.pieces.length (planP ls m) → Calls Tryd.prog 17 #[.slice A ls.length c, .slice B m.pieces.length cc] W fun e w' => e = .returned (.tuple #[.int .i64 (centsSum ls (planP ls m)), .int .i64 0]) ∧ Below W.heap.size W w') := fun W B cc hW hp => by
    have h1 := ssave_any ls A B c cc (planP ls m) W (Kd.C_below hL hW) hf (by rw [planP_len]; exact hp) (by rw [planP_len]; omega)
    rw [plan_save h, planP_len] at h1
    exact h1
  have HV : Hid (∀ (W : World) (B : Option Addr) (cc : Nat), Below w.heap.size w W → Kd.C (Kd.int .i64) W B m.pieces.length (planP ls m) → Calls Tryd.prog 15 #[.slice A ls.length c, .agg #[.int .u8 m.cls, .int .u8 m.country, .string m.origin, .slice A2 m.pieces.length c2], .slice B m.pieces.length cc] W fun e w' => e = .returned (.tuple #[.bool true, .int .i64 0]) ∧ Below W.heap.size W w') := fun W B cc hW hp => by
    have h1 := svalid_any ls m (planP ls m) A A2 B c c2 cc W (Kd.C_below hL hW) hf (Kd.C_below hC hW) hm (by rw [planP_len]; exact hp) (by rw [planP_len]; omega)
    rw [plan_valid h, planP_len] at h1
    exact h1
  clear hL hC hf hm h
  generalize centsSum ls (planP ls m) = sv at *
  have x0 := boxAt HX0.out 0 rfl
  have x1 := boxAt HX0.out 1 rfl
  have x2 := boxAt HX0.out 2 rfl
  have x3 := boxAt HX0.out 3 rfl
  go_enter Tryd.func14, Tryd.ntmps14
  go_wp2_with (first
    | (go_at_call 16; refine (HP.out _ HB0.out).mono ?_; rintro e wp ⟨⟨B, cc, rfl, _, _, _, hC⟩, hb⟩; have HCP := hid_ hC; have HBp := hid_ (below_step HB0.out hb); have HXp := hid_ (blk_below HX0.out hb); have yp0 := boxAt HXp.out 0 rfl; have yp1 := boxAt HXp.out 1 rfl; have yp2 := boxAt HXp.out 2 rfl; have yp3 := boxAt HXp.out 3 rfl; clear hC hb)
    | (go_at_call 17; refine (HS.out _ _ _ HBp.out HCP.out).mono ?_; rintro e ws ⟨rfl, hb⟩; have HCs := hid_ (Kd.C_below HCP.out hb); have HBs := hid_ (below_step HBp.out hb); have HXs := hid_ (blk_below HXp.out hb); have ys0 := boxAt HXs.out 0 rfl; have ys1 := boxAt HXs.out 1 rfl; have ys2 := boxAt HXs.out 2 rfl; have ys3 := boxAt HXs.out 3 rfl; clear hb)
    | (go_at_call 15; refine (HV.out _ _ _ HBs.out HCs.out).mono ?_; rintro e wv ⟨rfl, hb⟩; have HBv := hid_ (below_step HBs.out hb); have HXv := hid_ (blk_below HXs.out hb); have yv0 := boxAt HXv.out 0 rfl; have yv1 := boxAt HXv.out 1 rfl; have yv2 := boxAt HXv.out 2 rfl; have yv3 := boxAt HXv.out 3 rfl; clear hb))
  go_ret
  exact ⟨rfl, HBv.out⟩
end Go.Proofs.YtejmlkfdkodabaaDoor
namespace Go.Proofs.YtejmlkfdkodabaaDoor
open Go.RowKit LB Go.Maps Go.Proofs.YtejmlkfdkodabaaDoorW.PrintWords

theorem lfit_two : LFit twoS := by
  refine ⟨by decide, fun l hl => ?_⟩
  have : l = lv3 ∨ l = lvAll := by simpa [twoS] using hl
  rcases this with rfl | rfl <;> exact ⟨by decide, by decide, fun x hx => by cases hx⟩
theorem lfit_three : LFit threeS := by
  refine ⟨by decide, fun l hl => ?_⟩
  have : l = lv3 ∨ l = lv1 ∨ l = lvAll := by simpa [threeS] using hl
  rcases this with rfl | rfl | rfl <;> exact ⟨by decide, by decide, fun x hx => by cases hx⟩
theorem pcs_fit : ∀ (i : Nat) (cs : List ByteArray), (∀ c ∈ cs, c.size ≤ reach) → ∀ p ∈ pcs i cs, p.Fit
  | _, [], _, p, h => by cases h
  | i, c :: r, hc, p, h => by
    rw [pcs, List.mem_cons] at h
    rcases h with rfl | h
    · exact ⟨hc c (List.mem_cons_self ..)⟩
    · exact pcs_fit (i + 1) r (fun x hx => hc x (List.mem_cons_of_mem _ hx)) p h
theorem mail_fit (cs : List ByteArray) (hc : ∀ c ∈ cs, c.size ≤ reach) (hm : cs.length ≤ 1000000) : (mail25 cs).Fit :=
  ⟨by show (0 : Int) ≤ 1; decide, by show (1 : Int) ≤ 255; decide, by show (0 : Int) ≤ 1; decide, by show (1 : Int) ≤ 255; decide, by show (5 : Nat) ≤ reach; decide, by show (pcs 0 cs).length ≤ _; rw [pcs_len]; exact hm, pcs_fit 0 cs hc⟩
/-- What one row of the law's table holds. -/
structure Row25 (W : World) (T k : Nat) (ls : List Level) (cs : List ByteArray) (want : List Int) (sv : Int) (A A2 A3 : Option Addr) (c c2 c3 : Nat) : Prop where
  lev : Kd.C kLevel W A ls.length ls
  pcs : Kd.C kPiece W A2 (mail25 cs).pieces.length (mail25 cs).pieces
  ints : Kd.C (Kd.int .i64) W A3 want.length want
  x0 : W.cell? ⟨T, k * 7, none⟩ = some (.slice A ls.length c)
  x1 : W.cell? ⟨T, k * 7 + 1, none⟩ = some (.int .u8 1)
  x2 : W.cell? ⟨T, k * 7 + 2, none⟩ = some (.int .u8 1)
  x3 : W.cell? ⟨T, k * 7 + 3, none⟩ = some (.string z10000)
  x4 : W.cell? ⟨T, k * 7 + 4, none⟩ = some (.slice A2 (mail25 cs).pieces.length c2)
  x5 : W.cell? ⟨T, k * 7 + 5, none⟩ = some (.slice A3 want.length c3)
  x6 : W.cell? ⟨T, k * 7 + 6, none⟩ = some (.int .i64 sv)
  ok : ExOk ls cs want sv
  fit : LFit ls
  mfit : (mail25 cs).Fit
  few : want.length ≤ 2000
  same : want.length = (mail25 cs).pieces.length
theorem Row25.later {W W' : World} {T k : Nat} {ls : List Level} {cs : List ByteArray} {want : List Int} {sv : Int} {A A2 A3 : Option Addr} {c c2 c3 : Nat} (h : Row25 W T k ls cs want sv A A2 A3 c c2 c3) (hB : Below W.heap.size W W') : Row25 W' T k ls cs want sv A A2 A3 c c2 c3 :=
  ⟨Kd.C_below h.lev hB, Kd.C_below h.pcs hB, Kd.C_below h.ints hB, cellB hB h.x0, cellB hB h.x1, cellB hB h.x2, cellB hB h.x3, cellB hB h.x4, cellB hB h.x5, cellB hB h.x6, h.ok, h.fit, h.mfit, h.few, h.same⟩
def Rows25 (W : World) (T : Nat) : Prop := ∀ k, k < 3 → ∃ ls cs want sv A A2 A3 c c2 c3, Row25 W T k ls cs want sv A A2 A3 c c2 c3
theorem Rows25.later {W W' : World} {T : Nat} (h : Rows25 W T) (hB : Below W.heap.size W W') : Rows25 W' T := fun k hk => by
  obtain ⟨ls, cs, want, sv, A, A2, A3, c, c2, c3, h1⟩ := h k hk
  exact ⟨ls, cs, want, sv, A, A2, A3, c, c2, c3, h1.later hB⟩
theorem rows25 {w1 w2 w3 w4 w5 w6 W : World} {T : Nat} {A1 A2 A3 A4 A5 A6 : Option Addr} {c1 c2 c3 c4 c5 c6 g1 g2 g3 : Nat} {cells : Array Value} {t : TypeId}
    (h1 : Kd.C kLevel w1 A1 2 twoS) (h2 : Kd.C kPiece w2 A2 5 (pcs 0 codes1)) (h3 : Kd.C kLevel w3 A3 3 threeS) (h4 : Kd.C kPiece w4 A4 5 (pcs 0 codes2)) (h5 : Kd.C kLevel w5 A5 3 threeS) (h6 : Kd.C kPiece w6 A6 4 (pcs 0 codes3))
    (i1 : Kd.C (Kd.int .i64) W (some ⟨g1, 0, none⟩) 5 want1) (i2 : Kd.C (Kd.int .i64) W (some ⟨g2, 0, none⟩) 5 want2) (i3 : Kd.C (Kd.int .i64) W (some ⟨g3, 0, none⟩) 4 want3)
    (b1 : Below w1.heap.size w1 W) (b2 : Below w2.heap.size w2 W) (b3 : Below w3.heap.size w3 W) (b4 : Below w4.heap.size w4 W) (b5 : Below w5.heap.size w5 W) (b6 : Below w6.heap.size w6 W)
    (hT : W.heap[T]? = some (.cells cells t (0, 0)))
    (hc : cells = #[.slice A1 2 c1, .int .u8 1, .int .u8 1, .string z10000, .slice A2 5 c2, .slice (some ⟨g1, 0, none⟩) 5 5, .int .i64 15, .slice A3 3 c3, .int .u8 1, .int .u8 1, .string z10000, .slice A4 5 c4, .slice (some ⟨g2, 0, none⟩) 5 5, .int .i64 21, .slice A5 3 c5, .int .u8 1, .int .u8 1, .string z10000, .slice A6 4 c6, .slice (some ⟨g3, 0, none⟩) 4 4, .int .i64 15]) : Rows25 W T := by
  subst hc
  have hx : ∀ {i : Nat} {v : Value}, _ → _ := fun {i v} => boxAt hT i (v := v)
  intro k hk
  match k, hk with
  | 0, _ => exact ⟨twoS, codes1, want1, 15, A1, A2, _, c1, c2, _, Kd.C_below h1 b1, Kd.C_below h2 b2, i1, hx rfl, hx rfl, hx rfl, hx rfl, hx rfl, hx rfl, hx rfl, ex1, lfit_two, mail_fit _ (by decide) (by decide), by decide, rfl⟩
  | 1, _ => exact ⟨threeS, codes2, want2, 21, A3, A4, _, c3, c4, _, Kd.C_below h3 b3, Kd.C_below h4 b4, i2, hx rfl, hx rfl, hx rfl, hx rfl, hx rfl, hx rfl, hx rfl, ex2, lfit_three, mail_fit _ (by decide) (by decide), by decide, rfl⟩
  | 2, _ => exact ⟨threeS, codes3, want3, 15, A5, A6, _, c5, c6, _, Kd.C_below h5 b5, Kd.C_below h6 b6, i3, hx rfl, hx rfl, hx rfl, hx rfl, hx rfl, hx rfl, hx rfl, ex3, lfit_three, mail_fit _ (by decide) (by decide), by decide, rfl⟩
section
variable {W W' : World} {T k : Nat} {ls : List Level} {cs : List ByteArray} {want : List Int} {sv : Int} {A A2 A3 : Option Addr} {c c2 c3 : Nat}
theorem Row25.y4 (h : Row25 W T k ls cs want sv A A2 A3 c c2 c3) : W.cell? ⟨T, k * 7 + 4, none⟩ = some (.slice A2 want.length c2) := by rw [h.same]; exact h.x4
theorem row_plan (h : Row25 W T k ls cs want sv A A2 A3 c c2 c3) (hB : Below W.heap.size W W') : Calls Tryd.prog 16 #[.slice A ls.length c, .agg #[.int .u8 1, .int .u8 1, .string z10000, .slice A2 want.length c2]] W'
    fun e w' => (∃ B cc, e = .returned (.tuple #[.slice (some ⟨B, 0, none⟩) want.length cc, .int .i64 0]) ∧ Kd.C (Kd.int .i64) w' (some ⟨B, 0, none⟩) want.length want) ∧ Below W'.heap.size W' w' := by
  have h1 := plan_any ls (mail25 cs) A A2 c c2 W' (Kd.C_below h.lev hB) h.fit (Kd.C_below h.pcs hB) h.mfit
  rw [← h.same] at h1
  refine h1.mono ?_
  rintro e w' ⟨hp, hb⟩
  rw [if_pos h.ok.1, ← h.same] at hp
  obtain ⟨B, cc, rfl, _, _, hbel⟩ := hp
  refine ⟨⟨B, cc, rfl, ?_⟩, hb⟩
  have h2 := hbel.readsF (by have := h.few; omega)
  have e : (List.range want.length).map (planF (presG ls (mail25 cs)).1 (passF ls (presG ls (mail25 cs)).1 (presG ls (mail25 cs)).1.length) (presG ls (mail25 cs)).1.length) = want := by
    have := h.ok.2.1
    rw [← h.same] at this
    exact this
  rw [e] at h2
  exact h2
theorem row_save (h : Row25 W T k ls cs want sv A A2 A3 c c2 c3) (hB : Below W.heap.size W W') {B : Option Addr} {cc : Nat} (hP : Kd.C (Kd.int .i64) W' B want.length want) : Calls Tryd.prog 17 #[.slice A ls.length c, .slice B want.length cc] W'
    fun e w' => e = .returned (.tuple #[.int .i64 sv, .int .i64 0]) ∧ Below W'.heap.size W' w' := by
  have h1 := ssave_any ls A B c cc want W' (Kd.C_below h.lev hB) h.fit hP (by have := h.few; omega)
  rw [h.ok.2.2.1] at h1
  exact h1
theorem row_valid (h : Row25 W T k ls cs want sv A A2 A3 c c2 c3) (hB : Below W.heap.size W W') {B : Option Addr} {cc : Nat} (hP : Kd.C (Kd.int .i64) W' B want.length want) : Calls Tryd.prog 15 #[.slice A ls.length c, .agg #[.int .u8 1, .int .u8 1, .string z10000, .slice A2 want.length c2], .slice B want.length cc] W'
    fun e w' => e = .returned (.tuple #[.bool true, .int .i64 0]) ∧ Below W'.heap.size W' w' := by
  have h1 := svalid_any ls (mail25 cs) want A A2 B c c2 cc W' (Kd.C_below h.lev hB) h.fit (Kd.C_below h.pcs hB) h.mfit hP (by have := h.few; omega)
  rw [h.ok.2.2.2, ← h.same] at h1
  exact h1
theorem row_same (h : Row25 W T k ls cs want sv A A2 A3 c c2 c3) (hB : Below W.heap.size W W') {B : Option Addr} {cc : Nat} (hP : Kd.C (Kd.int .i64) W' B want.length want) : Calls Tryd.prog 20 #[.slice B want.length cc, .slice A3 want.length c3] W'
    fun e w' => e = .returned (.bool true) ∧ Below W'.heap.size W' w' := by
  have h1 := sameInts_any want want B A3 cc c3 W' hP (Kd.C_below h.ints hB)
  rw [decide_eq_true (rfl : want = want)] at h1
  exact h1
end
set_option maxHeartbeats 4000000 in
set_option maxRecDepth 100000 in
theorem awake25_any (w : World) : Calls Tryd.prog 10 #[] w fun e w' => e = .returned (.bool true) ∧ Below w.heap.size w w' := by
  have HTW := hid_ two_any
  have HTH := hid_ three_any
  have HML := hid_ mail25_any
  have HC1 : Hid (∀ W : World, Kd.C Kd.string (W.alloc (.cells #[.string ⟨#[49, 48, 48]⟩, .string ⟨#[49, 48, 48]⟩, .string ⟨#[50, 48, 48]⟩, .string ⟨#[49, 48, 48]⟩, .string ⟨#[50, 48, 48]⟩] 9)) (some ⟨W.heap.size, 0, none⟩) 5 codes1) := fun W => strs_lit W codes1 (by decide)
  have HC2 : Hid (∀ W : World, Kd.C Kd.string (W.alloc (.cells #[.string ⟨#[49, 48, 48]⟩, .string ⟨#[49, 48, 48]⟩, .string ⟨#[49, 48, 48]⟩, .string ⟨#[49, 48, 48]⟩, .string ⟨#[49, 49, 48]⟩] 9)) (some ⟨W.heap.size, 0, none⟩) 5 codes2) := fun W => strs_lit W codes2 (by decide)
  have HC3 : Hid (∀ W : World, Kd.C Kd.string (W.alloc (.cells #[.string ⟨#[49, 48, 48]⟩, .string ⟨#[49, 48, 48]⟩, .string ⟨#[49, 48, 48]⟩, .string ⟨#[49, 49, 48]⟩] 9)) (some ⟨W.heap.size, 0, none⟩) 4 codes3) := fun W => strs_lit W codes3 (by decide)
  have TK : True := trivial
  have T1 : True := trivial
  have T2 : True := trivial
  have T3 : True := trivial
  go_enter Tryd.func10, Tryd.ntmps10
  go_wp2_with (first
    | (go_at_call 22; refine (HTW.out _).mono ?_; rintro e w1 ⟨⟨A1, c1, rfl, hL1⟩, hb1⟩; have HL1 := hid_ hL1; have HB1 := hid_ hb1; clear hL1 hb1)
    | (clear TK; go_at_call 24; refine (HTH.out _).mono ?_; rintro e w3 ⟨⟨A3, c3, rfl, hL3⟩, hb3⟩; have HL3 := hid_ hL3; have HB3 := hid_ hb3; clear hL3 hb3)
    | (go_at_call 24; refine (HTH.out _).mono ?_; rintro e w5 ⟨⟨A5, c5, rfl, hL5⟩, hb5⟩; have HL5 := hid_ hL5; have HB5 := hid_ hb5; clear hL5 hb5)
    | (clear T1; go_at_call 23; refine (HML.out codes1 (some ⟨w1.heap.size, 0, none⟩) 5 _ (HC1.out w1) (by decide)).mono ?_; rintro e w2 ⟨⟨A2, c2, rfl, hc2, hL2⟩, hb2⟩; have HL2 := hid_ hL2; have HB2 := hid_ hb2; clear hL2 hb2 hc2)
    | (clear T2; go_at_call 23; refine (HML.out codes2 (some ⟨w3.heap.size, 0, none⟩) 5 _ (HC2.out w3) (by decide)).mono ?_; rintro e w4 ⟨⟨A4, c4, rfl, hc4, hL4⟩, hb4⟩; have HL4 := hid_ hL4; have HB4 := hid_ hb4; clear hL4 hb4 hc4)
    | (clear T3; go_at_call 23; refine (HML.out codes3 (some ⟨w5.heap.size, 0, none⟩) 4 _ (HC3.out w5) (by decide)).mono ?_; rintro e w6 ⟨⟨A6, c6, rfl, hc6, hL6⟩, hb6⟩; have HL6 := hid_ hL6; have HB6 := hid_ hb6; clear hL6 hb6 hc6))
  have S5 := below_step (below_alloc (Below.refl _ w5) _) HB6.out
  have S4 := below_step (below_alloc (Below.refl _ w4) _) HB5.out
  have S3 := below_step (below_alloc (Below.refl _ w3) _) HB4.out
  have S2 := below_step (below_alloc (Below.refl _ w2) _) HB3.out
  have S1 := below_step (below_alloc (Below.refl _ w1) _) HB2.out
  have HROW : Hid (∀ TB : Array Value, TB = #[.slice A1 2 c1, .int .u8 1, .int .u8 1, .string z10000, .slice A2 5 c2, .slice (some ⟨w2.heap.size, 0, none⟩) 5 5, .int .i64 15, .slice A3 3 c3, .int .u8 1, .int .u8 1, .string z10000, .slice A4 5 c4, .slice (some ⟨w4.heap.size, 0, none⟩) 5 5, .int .i64 21, .slice A5 3 c5, .int .u8 1, .int .u8 1, .string z10000, .slice A6 4 c6, .slice (some ⟨w6.heap.size, 0, none⟩) 4 4, .int .i64 15] →
      Rows25 ((w6.alloc (.cells #[.int .i64 0, .int .i64 0, .int .i64 0, .int .i64 2] 3)).alloc (.cells TB 64)) (w6.heap.size + 1) ∧ Below w.heap.size w ((w6.alloc (.cells #[.int .i64 0, .int .i64 0, .int .i64 0, .int .i64 2] 3)).alloc (.cells TB 64))) := by
    intro TB hTB
    have b6 := below_alloc (below_alloc (Below.refl _ w6) (.cells #[.int .i64 0, .int .i64 0, .int .i64 0, .int .i64 2] 3)) (.cells TB 64)
    have b5 := below_step S5 b6
    have b4 := below_step S4 b5
    have b3 := below_step S3 b4
    have b2 := below_step S2 b3
    have b1 := below_step S1 b2
    exact ⟨rows25 HL1.out HL2.out HL3.out HL4.out HL5.out HL6.out (Kd.C_below (ints_lit w2 want1 (by decide)) (below_step HB3.out b3)) (Kd.C_below (ints_lit w4 want2 (by decide)) (below_step HB5.out b5)) (Kd.C_below (ints_lit w6 want3 (by decide)) (below_alloc (Below.refl _ _) _)) b1 b2 b3 b4 b5 b6 (blk_new2 w6 _ _) hTB, below_step HB1.out b1⟩
  clear S1 S2 S3 S4 S5 HL1 HL2 HL3 HL4 HL5 HL6 HB1 HB2 HB3 HB4 HB5 HB6 HTW HTH HML HC1 HC2 HC3
  go_loopw [26] (fun i wr => ∃ k : Nat, k ≤ 3 ∧ i = .int .i64 k ∧ Hid (Below w.heap.size w wr) ∧ Hid (Rows25 wr (w6.heap.size + 1))) (fun i _ => 3 - (intOf i).toNat)
  case atStart => exact ⟨0, by omega, rfl, (HROW.out _ rfl).2, (HROW.out _ rfl).1⟩
  case round =>
    obtain ⟨k, hk, rfl, hB, hR⟩ := hrel
    clear HROW
    by_cases hlt : k < 3
    · obtain ⟨ls, cs, want, sv, A, A2', A3', c, c2', c3', h⟩ := hR.out k hlt
      have x0 := h.x0
      have x1 := h.x1
      have x2 := h.x2
      have x3 := h.x3
      have x4 := h.y4
      have x5 := h.x5
      have x6 := h.x6
      have HR := hid_ h
      clear h
      have HB0 := hid_ (below_alloc (Below.refl _ wr) (.cells #[.slice A ls.length c, .int .u8 1, .int .u8 1, .string z10000, .slice A2' want.length c2', .slice A3' want.length c3', .int .i64 sv] 64))
      have HX0 := hid_ (blk_new wr (.cells #[.slice A ls.length c, .int .u8 1, .int .u8 1, .string z10000, .slice A2' want.length c2', .slice A3' want.length c3', .int .i64 sv] 64))
      go_wp2_with (first
        | (go_at_call 16; refine (row_plan HR.out HB0.out).mono ?_; rintro e wp ⟨⟨B, cc, rfl, hP⟩, hb⟩; have HP := hid_ hP; have HBp := hid_ (below_step HB0.out hb); have HXp := hid_ (blk_below HX0.out hb); have yp0 := boxAt HXp.out 0 rfl; have yp1 := boxAt HXp.out 1 rfl; have yp2 := boxAt HXp.out 2 rfl; have yp3 := boxAt HXp.out 3 rfl; have yp4 := boxAt HXp.out 4 rfl; have yp5 := boxAt HXp.out 5 rfl; have yp6 := boxAt HXp.out 6 rfl; clear hP hb)
        | (go_at_call 17; refine (row_save HR.out HBp.out HP.out).mono ?_; rintro e ws ⟨rfl, hb⟩; have HPs := hid_ (Kd.C_below HP.out hb); have HBs := hid_ (below_step HBp.out hb); have HXs := hid_ (blk_below HXp.out hb); have ys0 := boxAt HXs.out 0 rfl; have ys1 := boxAt HXs.out 1 rfl; have ys2 := boxAt HXs.out 2 rfl; have ys3 := boxAt HXs.out 3 rfl; have ys4 := boxAt HXs.out 4 rfl; have ys5 := boxAt HXs.out 5 rfl; have ys6 := boxAt HXs.out 6 rfl; clear hb)
        | (go_at_call 15; refine (row_valid HR.out HBs.out HPs.out).mono ?_; rintro e wv ⟨rfl, hb⟩; have HPv := hid_ (Kd.C_below HPs.out hb); have HBv := hid_ (below_step HBs.out hb); have HXv := hid_ (blk_below HXs.out hb); have yv0 := boxAt HXv.out 0 rfl; have yv1 := boxAt HXv.out 1 rfl; have yv2 := boxAt HXv.out 2 rfl; have yv3 := boxAt HXv.out 3 rfl; have yv4 := boxAt HXv.out 4 rfl; have yv5 := boxAt HXv.out 5 rfl; have yv6 := boxAt HXv.out 6 rfl; clear hb)
        | (go_at_call 20; refine (row_same HR.out HBv.out HPv.out).mono ?_; rintro e we ⟨rfl, hb⟩; have HBe := hid_ (below_step HBv.out hb); clear hb))
      go_roundw
      case rel => exact ⟨k + 1, by omega, by go_num, below_step hB.out HBe.out, hR.out.later HBe.out⟩
      case measure => simp [intOf]; omega
    · go_wp2
      go_ret
      exact ⟨rfl, hB.out⟩
end Go.Proofs.YtejmlkfdkodabaaDoor
namespace Go.Proofs.YtejmlkfdkodabaaDoor
open LB

theorem named_size {s : ByteArray} (h : namedS s = true) : s.size ≤ 20 := by
  unfold namedS at h
  simp only [Bool.and_eq_true, decide_eq_true_eq] at h
  exact h.2.2
theorem code_size {s : ByteArray} (h : codeS s = true) : s.size ≤ 10 := by
  unfold codeS at h
  simp only [Bool.and_eq_true, decide_eq_true_eq] at h
  exact h.2.1
theorem labelSum_at : ∀ {ls : List Level} {l : Level}, l ∈ ls → l.labels.length ≤ labelSum ls
  | x :: r, l, h => by
    rw [labelSum]
    rcases List.mem_cons.1 h with rfl | h
    · omega
    · have := labelSum_at h; omega
theorem right_fit {ls : List Level} (h : rightS ls = true) : LFit ls := by
  obtain ⟨_, h2, h3, h4⟩ := right_iff.1 h
  refine ⟨by omega, fun l hl => ?_⟩
  have h5 := labelSum_at hl
  obtain ⟨i, hi, rfl⟩ := List.getElem_of_mem hl
  have ha := (h4 i hi).alone
  obtain ⟨a1, _, a3, _, _, a6, a7⟩ := alone_gives ha
  refine ⟨Nat.le_trans (named_size a1) (by unfold reach; omega), by omega, fun x hx => ?_⟩
  have hb : (decide (i + 1 = ls.length)) = false := by
    cases hd : decide (i + 1 = ls.length)
    · rfl
    · rw [(a6 hd).2.1] at hx; cases hx
  obtain ⟨b1, b2, b3⟩ := labelOk_gives ((a7 hb).1 x hx)
  exact ⟨by unfold reach; omega, Nat.le_trans (named_size b3) (by unfold reach; omega)⟩
theorem pcs_ok : ∀ (i : Nat) (cs : List ByteArray), (∀ c ∈ cs, codeS c = true) → i + cs.length ≤ 999999 → piecesOk i (pcs i cs) = true
  | _, [], _, _ => rfl
  | i, c :: r, hc, hi => by
    rw [List.length_cons] at hi
    rw [pcs, piecesOk, Bool.and_eq_true]
    refine ⟨pieceOk_iff.2 ⟨?_, ?_, ?_, ?_, ?_, ?_, hc c List.mem_cons_self⟩, ?_⟩
    · show (i : Int) < 1 + (i : Int); omega
    · show 1 + (i : Int) ≤ 999999; omega
    · show (0 : Int) ≤ 0; omega
    · show (0 : Int) ≤ 999999; omega
    · show (1 : Int) ≤ 1 + (i : Int) % 20; omega
    · show 1 + (i : Int) % 20 ≤ 50000; omega
    · have := pcs_ok (i + 1) r (fun d hd => hc d (List.mem_cons_of_mem _ hd)) (by omega)
      have e : (pieceAt i c).id = ((i + 1 : Nat) : Int) := by show 1 + (i : Int) = _; omega
      rw [e]
      exact this
theorem mail_ok {cs : List ByteArray} (hc : ∀ c ∈ cs, codeS c = true) (hm : cs.length ≤ 2000) : mailS (mail25 cs) = true := by
  unfold mailS headM
  simp only [Bool.and_eq_true, decide_eq_true_eq]
  refine ⟨⟨by show (1 : Int) ≤ 1; omega, by show (1 : Int) ≤ 1; omega, by show (1 : Int) ≤ 3; omega, by kernel_rfl, ?_⟩, ?_⟩
  · show (pcs 0 cs).length ≤ 2000
    rw [pcs_len]; exact hm
  · exact pcs_ok 0 cs hc (by omega)
theorem pcs_codes : ∀ (i : Nat) (cs : List ByteArray), (pcs i cs).map (·.code) = cs
  | _, [] => rfl
  | i, c :: r => by rw [pcs, List.map_cons, pcs_codes (i + 1) r]; rfl
theorem codesM_mail (cs : List ByteArray) : codesM (mail25 cs) = cs := pcs_codes 0 cs
theorem codesL_len (l : List Int) (most : Nat) : (codesL l most).length = min most l.length := by unfold codesL; rw [List.length_map, List.length_take]
theorem codesL_mem {l : List Int} {most : Nat} {c : ByteArray} (h : c ∈ codesL l most) : ∃ x, c = codeS5 x := by
  obtain ⟨x, _, rfl⟩ := List.mem_map.1 h
  exact ⟨x, rfl⟩
theorem mail_len (cs : List ByteArray) : (mail25 cs).pieces.length = cs.length := pcs_len 0 cs
theorem pres_made (b : Nat → Bool) {least cents : List Int} (hn : NumsOk least cents) {cs : List ByteArray} (hc : ∀ c ∈ cs, ∃ x, c = codeS5 x) (hm : cs.length ≤ 2000) : PresOk (madeS b least cents) (mail25 cs) := by
  refine ⟨mail_ok (fun c h => ?_) hm, made_right b hn, fun s hs => ?_⟩
  · obtain ⟨x, rfl⟩ := hc c h
    exact code5_ok x
  · rw [codesM_mail] at hs
    obtain ⟨x, rfl⟩ := hc s hs
    exact ⟨code5_ok x, made_short b least cents x⟩
theorem fit_made (b : Nat → Bool) {least cents : List Int} (hn : NumsOk least cents) : LFit (madeS b least cents) := right_fit (made_right b hn)
theorem fit_mail {cs : List ByteArray} (hc : ∀ c ∈ cs, ∃ x, c = codeS5 x) (hm : cs.length ≤ 2000) : (mail25 cs).Fit :=
  mail_fit cs (fun c h => by obtain ⟨x, rfl⟩ := hc c h; rw [code5_size]; unfold reach; omega) (by omega)
end Go.Proofs.YtejmlkfdkodabaaDoor
namespace Go.Proofs.YtejmlkfdkodabaaDoor
open Go.RowKit LB Go.Maps Go.Proofs.YtejmlkfdkodabaaDoorW.PrintWords

structure Made25 (ls : List Level) (cs : List ByteArray) (A A2 : Option Addr) (W : World) : Prop where
  ok : PresOk ls (mail25 cs)
  fit : LFit ls
  mfit : (mail25 cs).Fit
  lev : Kd.C kLevel W A ls.length ls
  pcs : Kd.C kPiece W A2 cs.length (pcs 0 cs)
section
variable {ls : List Level} {cs : List ByteArray} {A A2 : Option Addr} {c c2 : Nat} {W W' : World}
theorem Made25.later (h : Made25 ls cs A A2 W) (hB : Below W.heap.size W W') : Made25 ls cs A A2 W' := ⟨h.ok, h.fit, h.mfit, Kd.C_below h.lev hB, Kd.C_below h.pcs hB⟩
theorem Made25.many (h : Made25 ls cs A A2 W) : cs.length ≤ 2000 := by have := h.ok.many; rwa [mail_len] at this
def Plan25 (ls : List Level) (cs : List ByteArray) (w : World) (e : Ending) (w' : World) : Prop :=
  (∃ B cc, e = .returned (.tuple #[.slice (some ⟨B, 0, none⟩) cs.length cc, .int .i64 0]) ∧ cs.length ≤ cc ∧ w.heap.size ≤ B ∧ BelIs w' B cs.length (plOf (planP ls (mail25 cs))) ∧ Kd.C (Kd.int .i64) w' (some ⟨B, 0, none⟩) cs.length (planP ls (mail25 cs))) ∧ Below w.heap.size w w'
theorem Made25.plan (h : Made25 ls cs A A2 W) : Calls Tryd.prog 16 #[.slice A ls.length c, .agg #[.int .u8 1, .int .u8 1, .string z10000, .slice A2 cs.length c2]] W (Plan25 ls cs W) := by
  have h1 := splan_any h.ok A A2 c c2 W h.lev h.fit (by rw [mail_len]; exact h.pcs) h.mfit
  rw [mail_len] at h1
  refine h1.mono ?_
  rintro e w' ⟨⟨B, cc, rfl, a1, a2, a3, a4⟩, hb⟩
  rw [mail_len] at a1 a3 a4 ⊢
  exact ⟨⟨B, cc, rfl, a1, a2, a3, a4⟩, hb⟩
theorem Made25.saving (h : Made25 ls cs A A2 W) {q : List Int} {B : Option Addr} {cc n : Nat} (hn : n = q.length) (hq : Kd.C (Kd.int .i64) W B n q) (hm : q.length ≤ 1000000) : Calls Tryd.prog 17 #[.slice A ls.length c, .slice B n cc] W fun e w' => e = .returned (.tuple #[.int .i64 (saveS ls q).1, .int .i64 (saveS ls q).2]) ∧ Below W.heap.size W w' := by
  subst hn
  exact ssave_any ls A B c cc q W h.lev h.fit hq hm
theorem Made25.valid (h : Made25 ls cs A A2 W) {q : List Int} {B : Option Addr} {cc n : Nat} (hn : n = q.length) (hq : Kd.C (Kd.int .i64) W B n q) (hm : q.length ≤ 1000000) : Calls Tryd.prog 15 #[.slice A ls.length c, .agg #[.int .u8 1, .int .u8 1, .string z10000, .slice A2 cs.length c2], .slice B n cc] W fun e w' => e = .returned (.tuple #[.bool (validS ls (mail25 cs) q).1, .int .i64 (validS ls (mail25 cs) q).2]) ∧ Below W.heap.size W w' := by
  subst hn
  have h1 := svalid_any ls (mail25 cs) q A A2 B c c2 cc W h.lev h.fit (by rw [mail_len]; exact h.pcs) h.mfit hq hm
  rw [mail_len] at h1
  exact h1
theorem Made25.saves (h : Made25 ls cs A A2 W) : Calls Tryd.prog 14 #[.slice A ls.length c, .agg #[.int .u8 1, .int .u8 1, .string z10000, .slice A2 cs.length c2]] W fun e w' => e = .returned (.int .i64 (centsSum ls (planP ls (mail25 cs)))) ∧ Below W.heap.size W w' := by
  have h1 := lsaves_any h.ok A A2 c c2 W h.lev h.fit (by rw [mail_len]; exact h.pcs) h.mfit
  rw [mail_len] at h1
  exact h1
end
/-- What made leaves. -/
def MadeIn (ls : List Level) (cs : List ByteArray) (w : World) (e : Ending) (w' : World) : Prop :=
  (∃ A c A2 c2, e = .returned (.tuple #[.slice A ls.length c, .agg #[.int .u8 1, .int .u8 1, .string z10000, .slice A2 cs.length c2]]) ∧ Made25 ls cs A A2 w' ∧ Kd.R kLevel 41 w' w.heap.size (fun _ => True) (.slice A ls.length c) ls ∧ Kd.R kPiece 57 w' w.heap.size (fun _ => True) (.slice A2 cs.length c2) (pcs 0 cs)) ∧ Below w.heap.size w w'
theorem lmade_any (n : Int) (least cents l : List Int) (most : Nat) (Al Ac Ad : Option Addr) (cl cc cd : Nat) (w : World) (hn0 : 0 ≤ n) (hn1 : n < 4294967296)
    (hL : Kd.C (Kd.int .u8) w Al least.length least) (hC : Kd.C (Kd.int .u8) w Ac cents.length cents) (hD : Kd.C (Kd.int .u8) w Ad l.length l) (hcd : l.length ≤ cd) (bL : Bytes least) (bC : Bytes cents) (bD : Bytes l) (hm : most ≤ 2000) :
    Calls Tryd.prog 11 #[.int .u32 n, .slice Al least.length cl, .slice Ac cents.length cc, .slice Ad l.length cd, .int .i64 (most : Int)] w (MadeIn (madeS (bM n) (lowS least) cents) (codesL l most) w) := by
  refine (made25_any n least cents l most Al Ac Ad cl cc cd w hn0 hn1 hL hC hD hcd bL bC bD hm).mono ?_
  rintro e w' ⟨⟨A, c, A2, c2, rfl, h1, h2⟩, hb⟩
  have hno := low_ok bL bC
  have hlen : (codesL l most).length ≤ 2000 := by rw [codesL_len]; omega
  obtain ⟨_, _, h3⟩ := Kd.R_reads' h1
  obtain ⟨_, _, h4⟩ := Kd.R_reads' h2
  rw [pcs_len] at h4
  exact ⟨⟨A, c, A2, c2, rfl, ⟨pres_made _ hno (fun c h => codesL_mem h) hlen, fit_made _ hno, fit_mail (fun c h => codesL_mem h) hlen, h3, h4⟩, h1, h2⟩, hb⟩
/-- A new slice of numbers. -/
def IntsPost (xs : List Int) (w : World) (e : Ending) (w' : World) : Prop := (∃ A c, e = .returned (.slice A xs.length c) ∧ Kd.R (Kd.int .i64) 3 w' w.heap.size (fun _ => True) (.slice A xs.length c) xs) ∧ Below w.heap.size w w'
set_option maxHeartbeats 1000000 in
set_option maxRecDepth 100000 in
theorem copyInts_any (xs : List Int) (A : Option Addr) (c : Nat) (w : World) (hX : Kd.C (Kd.int .i64) w A xs.length xs) (hm : xs.length ≤ 1000000) :
    Calls Tryd.prog 21 #[.slice A xs.length c] w (IntsPost xs w) := by
  have HX := hid_ hX
  clear hX
  go_enter Tryd.func21, Tryd.ntmps21
  go_wp2_with (at_builtin; refine Kd.R_append_rows (Kd.int .i64) (w0 := w) w.heap.size rfl (.tmp 4) (.tmp 5) 38 3 (.int .i64 0) 8 rfl Tryd.underlying38 infoInt rfl (by decide) (by decide) _ [] xs _ _ _ (fun _ => True) (fun _ => False) rfl rfl (Kd.R_nil _ _ _ _ _) HX.out (fun _ _ h => h) (fun _ hk => hk.elim) (fun _ _ => trivial) (Below.refl _ _) (Nat.le_refl _) (by simp; omega) ?_; intro v1 w1 hR1 hb1 _ _; rw [List.nil_append] at hR1; obtain ⟨A1, c1, rfl⟩ := Kd.R_slice hR1; have HR1 := hid_ hR1; have HB1 := hid_ hb1; clear hR1 hb1)
  go_ret
  exact ⟨⟨A1, c1, rfl, HR1.out⟩, HB1.out⟩
end Go.Proofs.YtejmlkfdkodabaaDoor
