/- Texts of one proof put together. The law PresortFew: the walk. -/
import Derived.Test.YtejmlkfdkodabaaDoorQxl
namespace Go.Proofs.YtejmlkfdkodabaaDoor
open Go.RowKit LB Go.Maps Go.Proofs.YtejmlkfdkodabaaDoorW.PrintWords

def fewQ (n : Nat) (p : List Int) (k : Nat) : List Int := (List.range n).map fun j => if j = k then plOf p k - 1 else plOf p j
theorem fewQ_at {n : Nat} {p : List Int} {k j : Nat} (h : j < n) : plOf (fewQ n p k) j = if j = k then plOf p k - 1 else plOf p j := by
  unfold fewQ
  show ((List.range n).map _).getD j 0 = _
  rw [List.getD_eq_getElem?_getD, List.getElem?_eq_getElem (by simpa using h), Option.getD_some]
  simp
theorem fewQ_len (n : Nat) (p : List Int) (k : Nat) : (fewQ n p k).length = n := by simp [fewQ]
theorem few_facts {ls : List Level} {m : Mailing} (h : PresOk ls m) {k : Nat} (hk : k < m.pieces.length) (hz : plOf (planP ls m) k ≠ 0) :
    saveS ls (fewQ m.pieces.length (planP ls m) k) = (centsSum ls (fewQ m.pieces.length (planP ls m) k), 0) ∧
    ((validS ls m (fewQ m.pieces.length (planP ls m) k) = (true, 0) ∧ centsSum ls (fewQ m.pieces.length (planP ls m) k) < centsSum ls (planP ls m)) ∨ validS ls m (fewQ m.pieces.length (planP ls m) k) = (false, 0)) := by
  have hp := ((valid_iff h).1 (plan_valid h)).2
  have hk2 := hp.nn k (by rw [codesM_len]; exact hk)
  have hok : okPlan ls.length (fewQ m.pieces.length (planP ls m) k) = true := okPlan_iff.2 fun j hj => by
    rw [fewQ_len] at hj
    rw [fewQ_at hj]
    have := hp.nn j (by rw [codesM_len]; exact hj)
    split <;> omega
  refine ⟨save_ok (by rw [fewQ_len]; exact h.many) h.right hok, ?_⟩
  by_cases hv : validS ls m (fewQ m.pieces.length (planP ls m) k) = (true, 0)
  · refine .inl ⟨hv, plan_few h hk (fewQ_len _ _ _) (by omega) (by rw [fewQ_at hk, if_pos rfl]) (fun j hj hne => by rw [fewQ_at hj, if_neg hne]) hv⟩
  · exact .inr (valid_false h (fewQ_len _ _ _) hok hv)
set_option maxHeartbeats 4000000 in
set_option maxRecDepth 100000 in
theorem few_any (n : Int) (least cents l : List Int) (at_ : Int) (Al Ac Ad : Option Addr) (cl cc cd : Nat) (w : World) (hn0 : 0 ≤ n) (hn1 : n < 4294967296) (ha0 : 0 ≤ at_) (ha1 : at_ < 256)
    (hL : Kd.C (Kd.int .u8) w Al least.length least) (hC : Kd.C (Kd.int .u8) w Ac cents.length cents) (hD : Kd.C (Kd.int .u8) w Ad l.length l) (hcd : l.length ≤ cd) (bL : Bytes least) (bC : Bytes cents) (bD : Bytes l) :
    Calls Tryd.prog 8 #[.int .u32 n, .slice Al least.length cl, .slice Ac cents.length cc, .slice Ad l.length cd, .int .u8 at_] w fun e w' => e = .returned (.bool true) ∧ Below w.heap.size w w' := by
  have HAW := hid_ (awake25_any w)
  have HMD := hid_ (fun (W : World) (hW : Below w.heap.size w W) => lmade_any n least cents l 60 Al Ac Ad cl cc cd W hn0 hn1 (Kd.C_below hL hW) (Kd.C_below hC hW) (Kd.C_below hD hW) hcd bL bC bD (by omega))
  generalize madeS (bM n) (lowS least) cents = ls at HMD
  generalize hcs : codesL l 60 = cs at HMD
  clear hL hC hD bL bC bD hcs
  go_enter Tryd.func8, Tryd.ntmps8
  go_upto_region 4 with (first
    | (go_at_call 10; refine HAW.out.mono ?_; rintro e w0 ⟨rfl, hb0⟩; have HB0 := hid_ hb0; clear hb0)
    | (go_at_call 11; refine (HMD.out _ HB0.out).mono ?_; rintro e w1 ⟨⟨A, c, A2, c2, rfl, hM, _, _⟩, hb1⟩; have HM := hid_ hM; have HB1 := hid_ (below_step HB0.out hb1); clear hM hb1))
  have hmany := HM.out.many
  have HBX := hid_ (below_step HB1.out (below_alloc (Below.refl _ w1) (.cells #[.int .u8 1, .int .u8 1, .string z10000, .slice A2 cs.length c2] 28)))
  have HX := hid_ (blk_new w1 (.cells #[.int .u8 1, .int .u8 1, .string z10000, .slice A2 cs.length c2] 28))
  have HMX := hid_ (HM.out.later (below_alloc (Below.refl _ w1) (.cells #[.int .u8 1, .int .u8 1, .string z10000, .slice A2 cs.length c2] 28)))
  have x0 := boxAt HX.out 0 rfl
  have x1 := boxAt HX.out 1 rfl
  have x2 := boxAt HX.out 2 rfl
  have x3 := boxAt HX.out 3 rfl
  obtain ⟨wb, hwb⟩ : ∃ wb, w1.alloc (.cells #[.int .u8 1, .int .u8 1, .string z10000, .slice A2 cs.length c2] 28) = wb := ⟨_, rfl⟩
  rw [hwb] at HBX HX HMX x0 x1 x2 x3 ⊢
  clear hwb HM
  have HPL := hid_ (HMX.out.plan (c := c) (c2 := c2))
  go_upto_region 5 with (go_at_call 16; refine HPL.out.mono ?_; rintro e wp ⟨⟨B, cc, rfl, hcc, hBB, hbel, hC⟩, hb⟩; have HCP := hid_ hC; have HBEL := hid_ hbel; have HBp := hid_ hb; have HXp := hid_ (blk_below HX.out hb); have yp0 := boxAt HXp.out 0 rfl; have yp1 := boxAt HXp.out 1 rfl; have yp2 := boxAt HXp.out 2 rfl; have yp3 := boxAt HXp.out 3 rfl; clear hC hb hbel)
  by_cases hz : cs.length = 0
  · have hzI : ((cs.length : Int) == 0) = true := by simp [hz]
    go_wp2
    go_ret
    exact ⟨rfl, below_step HBX.out HBp.out⟩
  · have hzI : ((cs.length : Int) == 0) = false := int_eq_f (by omega)
    obtain ⟨k, hk, hkn⟩ : ∃ k : Nat, at_ % (cs.length : Int) = (k : Int) ∧ k < cs.length := by
      have h1 := Int.emod_nonneg at_ (show (cs.length : Int) ≠ 0 by omega)
      have h2 := Int.emod_lt_of_pos at_ (show (0 : Int) < cs.length by omega)
      generalize at_ % (cs.length : Int) = r at h1 h2
      exact ⟨r.toNat, by omega, by omega⟩
    have hkI : (k : Int) < (cs.length : Int) := by omega
    have hpos : (0 : Int) < (cs.length : Int) := by omega
    have z0 := (HBEL.out.get hkn).1
    have HFF := hid_ (fun h => few_facts (ls := ls) (m := mail25 cs) HMX.out.ok (k := k) (by rw [mail_len]; exact hkn) h)
    rw [mail_len] at HFF
    have HPN : Hid (0 ≤ plOf (planP ls (mail25 cs)) k ∧ plOf (planP ls (mail25 cs)) k < 1000) := by
      have h1 := ((valid_iff HMX.out.ok).1 (plan_valid HMX.out.ok)).2.nn k (by rw [codesM_len, mail_len]; exact hkn)
      have h2 := (right_iff.1 HMX.out.ok.right).2.1
      rw [Hid]
      omega
    have HPLEN : Hid ((planP ls (mail25 cs)).length = cs.length) := (planP_len _ _).trans (mail_len _)
    have HSP : Hid (saveS ls (planP ls (mail25 cs)) = (centsSum ls (planP ls (mail25 cs)), 0)) := plan_save HMX.out.ok
    generalize planP ls (mail25 cs) = p at *
    generalize hpk : plOf p k = pk at *
    obtain ⟨hp0, hp1⟩ := HPN.out
    by_cases hq : pk = 0
    · have hqI : (pk == 0) = true := by simp [hq]
      go_wp2
      go_ret
      exact ⟨rfl, below_step HBX.out HBp.out⟩
    · have hqI : (pk == 0) = false := by simp [hq]
      obtain ⟨HFS, HFV⟩ := HFF.out hq
      have HFS := hid_ HFS
      have HFV := hid_ HFV
      have HCI : Hid (∀ W : World, Below wp.heap.size wp W → Calls Tryd.prog 21 #[.slice (some ⟨B, 0, none⟩) cs.length cc] W fun e w' => (∃ B3 c3, e = .returned (.slice (some ⟨B3, 0, none⟩) cs.length c3) ∧ W.heap.size ≤ B3 ∧ BelIs w' B3 cs.length (plOf p)) ∧ Below W.heap.size W w') := fun W hW => by
        have h1 := copyInts_any p (some ⟨B, 0, none⟩) cc W (by rw [HPLEN.out]; exact Kd.C_below HCP.out hW) (by rw [HPLEN.out]; omega)
        rw [HPLEN.out] at h1
        refine h1.mono ?_
        rintro e w' ⟨⟨A3, c3, rfl, hR⟩, hb⟩
        obtain ⟨B3, c4, e1, h2, _, h3⟩ := bel_of_R hR (by rw [HPLEN.out]; omega)
        rw [HPLEN.out] at e1 h3 ⊢
        exact ⟨⟨B3, c4, by rw [e1], h2, h3⟩, hb⟩
      clear hqI hzI
      have hqI : (pk == 0) = false := by simp [hq]
      have HS1 : Hid (∀ W : World, Below wp.heap.size wp W → Calls Tryd.prog 17 #[.slice A ls.length c, .slice (some ⟨B, 0, none⟩) cs.length cc] W fun e w' => e = .returned (.tuple #[.int .i64 (centsSum ls p), .int .i64 0]) ∧ Below W.heap.size W w') := fun W hW => by
        have h1 := (HMX.out.later (below_step HBp.out hW)).saving (c := c) (cc := cc) HPLEN.out.symm (Kd.C_below HCP.out hW) (by rw [HPLEN.out]; omega)
        rw [HSP.out] at h1
        exact h1
      have HS2 : Hid (∀ (W : World) (B3 : Option Addr) (c3 : Nat), Below wp.heap.size wp W → Kd.C (Kd.int .i64) W B3 cs.length (fewQ cs.length p k) → Calls Tryd.prog 17 #[.slice A ls.length c, .slice B3 cs.length c3] W fun e w' => e = .returned (.tuple #[.int .i64 (centsSum ls (fewQ cs.length p k)), .int .i64 0]) ∧ Below W.heap.size W w') := fun W B3 c3 hW hQ => by
        have h1 := (HMX.out.later (below_step HBp.out hW)).saving (c := c) (cc := c3) (fewQ_len _ _ _).symm hQ (by rw [fewQ_len]; omega)
        rw [HFS.out] at h1
        exact h1
      have HV2 := hid_ (fun (W : World) (B3 : Option Addr) (c3 : Nat) (hW : Below wp.heap.size wp W) (hQ : Kd.C (Kd.int .i64) W B3 cs.length (fewQ cs.length p k)) => (HMX.out.later (below_step HBp.out hW)).valid (c := c) (c2 := c2) (cc := c3) (fewQ_len _ _ _).symm hQ (by rw [fewQ_len]; omega))
      generalize hsp : centsSum ls p = sp at *
      generalize hsq : centsSum ls (fewQ cs.length p k) = sq at *
      obtain ⟨vb, hvb, hfin⟩ : ∃ vb : Bool, validS ls (mail25 cs) (fewQ cs.length p k) = (vb, 0) ∧ (vb = true → sq < sp) := by
        rcases HFV.out with ⟨h1, h2⟩ | h1
        · exact ⟨true, h1, fun _ => h2⟩
        · exact ⟨false, h1, fun h => by cases h⟩
      rw [hvb] at HV2
      have HFIN := hid_ hfin
      clear hsp hsq hvb hfin
      have hlt0 : vb = true → sq < sp := HFIN.out
      cases vb
      all_goals
        (try have hlt := hlt0 rfl)
        clear hlt0
        go_wp2_with (first
        | (go_at_call 21; refine (HCI.out _ (by first | exact Below.refl _ _ | exact below_drew (Below.refl _ _))).mono ?_; rintro e w3 ⟨⟨B3, c3, rfl, h3, hb3⟩, hb⟩; have HB3 := hid_ (below_set hb h3 (g := B3) (j := k) (v := .int .i64 (pk - 1))); have HQ3 : Hid (Kd.C (Kd.int .i64) (w3.setCell ⟨B3, k, none⟩ (.int .i64 (pk - 1))) (some ⟨B3, 0, none⟩) cs.length (fewQ cs.length p k)) := (by have h8 := (hb3.set hkn (pk - 1)).readsF (by omega); rw [← hpk] at h8 ⊢; exact h8); have z3 := (hb3.get hkn).1; have q3 := (hb3.get hkn).2; obtain ⟨w4, hw4⟩ : ∃ w4, w3.setCell ⟨B3, k, none⟩ (.int .i64 (pk - 1)) = w4 := ⟨_, rfl⟩; rw [hw4] at HB3 HQ3; clear hb hb3 h3)
        | (go_at_call 17; ((with_reducible refine (HS1.out _ HB3.out).mono ?_)); rintro e w5 ⟨rfl, hb⟩; have HB5 := hid_ (below_step HB3.out hb); have HQ5 := hid_ (Kd.C_below HQ3.out hb); clear hb)
        | (go_at_call 17; ((with_reducible refine (HS2.out _ _ _ HB5.out HQ5.out).mono ?_)); rintro e w6 ⟨rfl, hb⟩; have HB6 := hid_ (below_step HB5.out hb); have HQ6 := hid_ (Kd.C_below HQ5.out hb); have HX6 := hid_ (blk_below HXp.out HB6.out); have y60 := boxAt HX6.out 0 rfl; have y61 := boxAt HX6.out 1 rfl; have y62 := boxAt HX6.out 2 rfl; have y63 := boxAt HX6.out 3 rfl; clear hb)
        | (go_at_call 15; refine (HV2.out _ _ _ HB6.out HQ6.out).mono ?_; rintro e w7 ⟨rfl, hb⟩; have HB7 := hid_ (below_step HB6.out hb); clear hb))
        go_ret
        exact ⟨rfl, below_step HBX.out (below_step HBp.out HB7.out)⟩
theorem few_law (n : Int) (least cents l : List Int) (at_ : Int) (Al Ac Ad : Option Addr) (cl cc cd : Nat) (w : World) (hn0 : 0 ≤ n) (hn1 : n < 4294967296) (ha0 : 0 ≤ at_) (ha1 : at_ < 256)
    (hL : Kd.C (Kd.int .u8) w Al least.length least) (_ : least.length ≤ cl) (_ : least.length * 1 ≤ 140737488351232) (hC : Kd.C (Kd.int .u8) w Ac cents.length cents) (_ : cents.length ≤ cc) (_ : cents.length * 1 ≤ 140737488351232)
    (hD : Kd.C (Kd.int .u8) w Ad l.length l) (hcd : l.length ≤ cd) (_ : l.length * 1 ≤ 140737488351232) (bL : Bytes least) (bC : Bytes cents) (bD : Bytes l) :
    Calls Tryd.prog 8 #[.int .u32 n, .slice Al least.length cl, .slice Ac cents.length cc, .slice Ad l.length cd, .int .u8 at_] w fun e w' => e = .returned (.bool true) ∧ Below w.heap.size w w' :=
  few_any n least cents l at_ Al Ac Ad cl cc cd w hn0 hn1 ha0 ha1 hL hC hD hcd bL bC bD
end Go.Proofs.YtejmlkfdkodabaaDoor
