/- Texts of one proof put together. The program's scheme.Groups, where all is right. Right mailings: the program's look and the reference's. The program's presort.groups: the groups of a mailing. What a mailing's groups are known to be, where presort finds no error; the plan that it gives. Plans' numbers: the program's look and the reference's. What plans save: the program's and the reference's. Seat B alone. The program's presort.Valid. -/
import Derived.Test.YtejmlkfdkodabaaDoorQxe
import Derived.Test.YtejmlkfdkodabaaDoorQxd
import Derived.Test.YtejmlkfdkodabaaDoorQxb
import Derived.Test.YtejmlkfdkodabaaDoorQxa
namespace Go.Proofs.YtejmlkfdkodabaaDoor
open Go.RowKit LB Go.Maps Go.Sort Go.ChangeShapes Go.Proofs.YtejmlkfdkodabaaDoorW.PrintWords

theorem code_ten {s : ByteArray} (h : codeS s = true) : 1 ≤ s.size ∧ s.size ≤ 10 := by
  unfold codeS at h
  simp only [Bool.and_eq_true, decide_eq_true_eq] at h
  exact ⟨h.1, h.2.1⟩
theorem tie_start {ls : List Level} {cs : List ByteArray} (h : 0 < ls.length) : groupsN 0 0 (cols ls cs) = [] ++ groupsN (((0 : Nat) : Int) - 1) ([] : List Group).length ([] :: (cols ls cs).drop 0) := by
  match ls, h with
  | l :: r, _ =>
    rw [List.drop_zero]
    show groupsN 0 0 (cs.map (gname l) :: cols r cs) = [] ++ groupsN (((0 : Nat) : Int) - 1) 0 ([] :: cs.map (gname l) :: cols r cs)
    rw [groupsN_two]
    simp [sortD]
set_option maxHeartbeats 4000000 in
set_option maxRecDepth 100000 in
theorem sgroups_right (ls : List Level) (cs : List ByteArray) (A A2 : Option Addr) (c c2 : Nat) (w : World) (hL : Kd.C kLevel w A ls.length ls) (hf : LFit ls) (hC : Kd.C Kd.string w A2 cs.length cs) (hfc : ∀ s ∈ cs, s.size ≤ reach) (h : cs.length ≤ 2000)
    (q1 : rightS ls = true) (q2 : cs.any (fun s => !codeS s) = false) (q3 : cs.any (shortOf ls) = false) :
    Calls Tryd.prog 12 #[.slice A ls.length c, .slice A2 cs.length c2] w (GroupsPost ls cs w) := by
  have eg1 := enters_of Tryd.func29 (by kernel_rfl) rfl
  have eg2 := enters_of Tryd.func31 (by kernel_rfl) rfl
  have B0 := hid_ ((Below.refl w.heap.size w).alloc (Nat.le_refl _) (.cells #[.slice A ls.length c] 25))
  have X0 := hid_ (blk_new w (.cells #[.slice A ls.length c] 25))
  have x0 := boxAt X0.out 0 rfl
  have HR := hid_ (sright_any ls A c _ (Kd.C_below hL B0.out) hf)
  have HC1 := hid_ (fun (W : World) (hW : Below w.heap.size w W) => containsStrs_any 29 #[] (fun s => !codeS s) cs A2 c2 W (Kd.C_below hC hW) (by omega) eg1 (fun W' _ s hs => groups1_any s W' (by have := hfc s hs; unfold reach at this; omega)))
  have hl0 : 0 < ls.length := (right_iff.1 q1).1
  have hl6 : ls.length ≤ 6 := (right_iff.1 q1).2.1
  have HC2 := hid_ (fun (W : World) (hW : Below w.heap.size w W) (hX : W.heap[w.heap.size]? = some (.cells #[.slice A ls.length c] 25 (0, 0))) => containsStrs_any 31 #[.pointer (some ⟨w.heap.size, 0, none⟩)] (shortOf ls) cs A2 c2 W (Kd.C_below hC hW) (by omega) eg2 (fun W' hW' s hs => groups2_any ls A c w.heap.size s w W' (by have := hfc s hs; unfold reach at this; omega) hL hl0 (below_then hW hW.size hW') (blk_below hX hW')))
  rw [q1] at HR
  rw [q2] at HC1
  rw [q3] at HC2
  have HX := hid_ (groups_ok h q1 q2 q3)
  have HQ1 := hid_ q1
  have HQ2 : Hid (∀ s ∈ cs, codeS s = true ∧ shortOf ls s = false) := fun s hs => by
    rw [List.any_eq_false] at q2 q3
    exact ⟨by simpa using q2 s hs, by simpa using q3 s hs⟩
  have HL := hid_ hL
  have HF := hid_ hf
  have HC := hid_ hC
  have HFC := hid_ hfc
  have hmm := @run_makeMap Tryd.prog
  clear q1 q2 q3 eg1 eg2 hL hf hC hfc
  go_enter Tryd.func12, Tryd.ntmps12
  go_wp2_with (first | (go_at_call 27; refine HR.out.mono ?_; rintro e w1 ⟨rfl, hb1⟩; have B1 := hid_ (below_then B0.out B0.out.size hb1); have X1 := hid_ (blk_below X0.out hb1); clear hb1) | (go_at_call 28; with_reducible refine (HC1.out _ B1.out).mono ?_; rintro e w2 ⟨rfl, hb2⟩; have B2 := hid_ (below_then B1.out B1.out.size hb2); have X2 := hid_ (blk_below X1.out hb2); clear hb2) | (go_at_call 28; with_reducible refine (HC2.out _ B2.out X2.out).mono ?_; rintro e w3 ⟨rfl, hb3⟩; have B3 := hid_ (below_then B2.out B2.out.size hb3); have X3 := hid_ (blk_below X2.out hb3); clear hb3) | (at_make; refine Kd.R_make (Kd.int .i64) (w0 := w) w.heap.size 3 rfl (N := 35) rfl 38 _ _ rfl (cs.length : Int) rfl rfl Tryd.underlying38 (.int .i64 0) 8 infoInt rfl (by decide) (by omega) 0 (ok := fun _ => True) (okp := fun _ => True) rfl (fun _ hk => hk) trivial (by omega) (by omega) B3.out B3.out.size ?_; intro v4 w4 ho4 hb4 hg4 hn4; have x04 := boxAt (blk_grown X3.out hg4 (by simp)) 0 rfl; obtain ⟨Bb, cb, rfl, hBb, hbel⟩ := bel_made ho4 (hn4.imp fun b hb => ⟨hb.1, Nat.le_trans B3.out.size hb.2⟩); have HBEL := hid_ hbel; have HB4 := hid_ hb4; clear ho4 hb4 hg4 hn4 hbel))
  go_loopw [6, 38] (fun v i wr => ∃ n : Nat, n ≤ ls.length ∧ i = .int .i64 n ∧ ∃ P cp, Hid (Lvls ls cs w Bb n v P cp wr)) (fun _ i _ => ls.length - (intOf i).toNat)
  case atStart => exact ⟨0, Nat.zero_le _, rfl, [], [], HB4.out, OutIs.nil _ _ _, HBEL.out.congr (fun i _ => by simp [bel0]), tie_start hl0, fun _ => ⟨rfl, rfl⟩, fun h => absurd h (by omega), Nat.le_refl _⟩
  case round =>
    obtain ⟨n, hn, rfl, P, cp, HI⟩ := hrel
    obtain ⟨AO, co, rfl⟩ := HI.out.out.slice
    obtain ⟨wo, rfl⟩ : ∃ wo : World, wo = wr := ⟨_, rfl⟩
    by_cases hlt : n < ls.length
    · obtain ⟨g, o, A3, c3, rfl, hg, hg', e0, e1, e2, e3, e4, hl2, hC2⟩ := atLevel HL.out HI.out.below n hlt
      have HLC := hid_ hC2
      clear hC2
      have hfa := hid_ (HF.out.each _ (List.getElem_mem hlt))
      have hml := hfa.out.many
      have HASC := hid_ (alone_asc ((right_iff.1 HQ1.out).2.2.2 n hlt).alone)
      have hp0 := pre_nn HQ1.out hlt
      obtain ⟨LB, hLB⟩ : ∃ LB : Obj, LB = .cells #[.string ls[n].name, .int .i64 ls[n].pre, .slice A3 ls[n].labels.length c3, .int .i64 ls[n].min, .int .i64 ls[n].cents] 41 := ⟨_, rfl⟩
      have HLB := hid_ hLB
      obtain ⟨col, HCC, HLEN, HCOL⟩ : ∃ col : List ByteArray, Hid (cs.map (gname ls[n]) = col) ∧ Hid (col.length = cs.length) ∧ Hid (∀ k (hk : k < cs.length) (hk' : k < col.length), col[k] = gname ls[n] cs[k]) := ⟨cs.map (gname ls[n]), hid_ rfl, by simp [Hid], hid_ (fun k hk hk' => by simp)⟩
      clear hLB
      obtain ⟨i0, hi, hz0, hz1, hz2⟩ := info_parts infoInt
      have HBW := hid_ ((Below.refl wo.heap.size wo).alloc (Nat.le_refl _) LB)
      have HLX : Hid ((wo.alloc LB).heap[wo.heap.size]? = some LB) := blk_new wo LB
      have HM0 := hid_ (World.ownsGroups_made (H := Unit) (wo.alloc LB) Tryd.prog 9 3 .i64)
      have hsz1 : (wo.alloc LB).heap.size = wo.heap.size + 1 := by simp
      rw [hsz1] at HM0
      clear hsz1
      rw [HLB.out] at HBW HLX HM0
      clear HLB
      go_wp2
      go_loopw [46] (fun i wx => ∃ k : Nat, k ≤ cs.length ∧ i = .int .i64 k ∧ ∃ D, Hid (GroupD col k D) ∧ Hid (wx.ownsGroups (H := Unit) Tryd.prog 9 (wo.heap.size + 1 + 1) 3 .i64 (wo.heap.size + 1) k D) ∧ wo.heap.size + 2 ≤ wx.heap.size
          ∧ Hid (Below (wo.heap.size + 1) (wo.alloc (.cells #[.string ls[n].name, .int .i64 ls[n].pre, .slice A3 ls[n].labels.length c3, .int .i64 ls[n].min, .int .i64 ls[n].cents] 41)) wx)) (fun i _ => cs.length - (intOf i).toNat)
      case atStart => exact ⟨0, Nat.zero_le _, rfl, _, GroupD.start col, HM0.out, by simp, (Below.refl _ _).alloc (by simp) _⟩
      case round =>
        obtain ⟨k, hk, rfl, D, HD, HM, hws, hbx⟩ := hrel
        have HBX := hid_ (HBW.out.trans (hbx.out.mono (by omega)))
        have HBY := hid_ (below_then HI.out.below HI.out.below.size HBX.out)
        have HLY := hid_ ((hbx.out.block wo.heap.size (by omega)).trans HLX.out)
        by_cases hkl : k < cs.length
        · obtain ⟨g2, o2, rfl, _, _, c0⟩ := atStr HC.out HBY.out k hkl
          have HKS := hid_ (HQ2.out _ (List.getElem_mem hkl))
          have hps := long_enough HQ1.out hlt HKS.out.2
          have hcs := code_ten HKS.out.1
          have hss := HFC.out _ (List.getElem_mem hkl)
          have HGN : Hid (col[k]'(by rw [HLEN.out]; exact hkl) = gname ls[n] cs[k]) := HCOL.out k hkl _
          have HDP := hid_ (HD.out.push (show k < col.length by rw [HLEN.out]; exact hkl))
          rw [HGN.out] at HDP
          have HDZ : Hid (∀ (w : World) (base e : Nat) (v : Value) (zs : List Int), D.atKey (keyS (gname ls[n] cs[k])) .nil = rowDatum .i64 v zs → w.ownsInts base e .i64 v zs → zs = colItems (col.take k) (gname ls[n] cs[k])) := fun w base e v zs hat ho => HD.out.zs hat ho
          clear HGN
          generalize cs[k] = s at c0 HKS hps hcs hss HDP HDZ
          have L0 := laterCell (boxAt HLY.out 0 rfl)
          have L1 := laterCell (boxAt HLY.out 1 rfl)
          have L2 := laterCell (boxAt HLY.out 2 rfl)
          have L3 := laterCell (boxAt HLY.out 3 rfl)
          have L4 := laterCell (boxAt HLY.out 4 rfl)
          have HKEY := hid_ (keyOfS (groupL_size hfa.out.each (show (takeS s ls[n].pre).size ≤ reach from by have := takeS_size hp0 hps; unfold reach; omega)))
          unfold gname at HDP HDZ
          unfold takeS at HKEY HDP HDZ
          go_wp2
          refine wp_region_later (by kernel_rfl) (by kernel_rfl) ?_
          repeat (go_big_quiet_step ((go_at_call 32; exact later_of (sgroup_any ls[n] _ _ _ _ (laterC HLC.out HBY.out _) hml HASC.out))))
          refine wpQuiet_nil ?_
          rintro _ ⟨⟨W, hW⟩, rfl⟩
          have HMW := hid_ (groups_below HM.out hW)
          have HBZ := hid_ (hbx.out.trans (hW.mono (by omega)))
          have hws2 := hW.size
          clear hW
          go_wp2_with (first
            | (at_lookup; refine wpList_lookup_groups _ rfl _ _ 71 rfl 9 38 3 .i64 lawS Tryd.underlying71 (zeroInts _) (wo.heap.size + 1 + 1) (wo.heap.size + 1) k _ rfl HMW.out (by unfold maxLen; omega) _ _ rfl HKEY.out ?_; intro v zs hat hoi hzl hback)
            | (at_builtin; refine wpList_append_own_at _ rfl _ _ 38 rfl (wo.heap.size + 1 + 1) 3 i0 (.int .i64 0) 1 8 Tryd.underlying38 hi hz0 hz1 hz2 rfl (by decide) _ _ _ rfl (hoi.1.alloc _) _ 1 1 [.int .i64 k] rfl rfl (cell_one_new _ _ _) (ints_oneCell .i64 [(k : Int)]) (by unfold maxLen; omega) (by omega) (by simp; omega) ?_; intro v' w1 hown' hgrow hnil hloc; have hall := (World.grownBy_alloc _ _ _).trans hgrow)
            | (at_mapUpdate; refine wpList_mapUpdate_back _ rfl _ _ _ 71 rfl hback rfl rfl rfl ((World.grownBy_alloc _ _ _).trans hgrow) (hoi.appended hown' (WalkArith.wf_i64 (by omega))) (by simp; omega) (hloc.imp id (fun h => ⟨_, h, by simp⟩)) ?_; intro w2 hown2 hgrow2))
          go_roundw
          case rel =>
            refine ⟨_, _, _, _, ⟨k + 1, by omega, rfl, _, HDP.out, ?_, Nat.le_trans (Nat.le_trans hws hws2) (Nat.le_trans hall.size hgrow2.size), HBZ.out.groups hoi hall hgrow2 (by omega) (Nat.le_succ _) (Nat.le_refl _)⟩, rfl, rfl, rfl, by go_num⟩
            have e1 := HDZ.out _ _ _ _ _ hat hoi
            rw [← e1, ← (hoi.appended hown' (WalkArith.wf_i64 (by omega))).datum_pos (by simp)]
            exact hown2
          case measure => simp [intOf]; omega
        · obtain rfl : k = cs.length := by omega
          obtain ⟨wx, rfl⟩ : ∃ wx : World, wx = wr := ⟨_, rfl⟩
          obtain ⟨D', hMt, hhas, hsize⟩ := groups_triv HM.out
          have HMT := hid_ hMt
          have HHAS := hid_ hhas
          clear hMt hhas
          obtain ⟨is0, si, sz0, sz1, sz2⟩ := info_parts infoStr
          have hbl := HMT.out.lt
          go_wp2_with (first
            | (at_len; refine wpList_len_own _ rfl _ 71 rfl 9 38 Tryd.underlying71 _ _ _ _ rfl HMT.out ?_)
            | (at_make; refine wpList_make_own _ rfl _ _ 35 rfl wx.heap.size 9 is0 (.string ⟨#[]⟩) 1 Tryd.underlying35 si sz0 sz1 _ _ _ (Maps.size D') rfl rfl rfl (by rw [sz2]; omega) (by unfold maxLen; omega) (Nat.le_refl _) ?_; intro w5 hrow5 hg5)
            | (at_range; refine wpList_range_own _ rfl _ 71 rfl 9 38 lawS Tryd.underlying71 _ _ _ _ rfl (HMT.out.kept hg5 (by simp)) ?_; intro w6 hrg6 hg6 hs6; go_frame))
          have HS5 := hg5.size
          have HB6 := hid_ (((Below.refl wx.heap.size wx).grown hg5 (Nat.le_refl _) (fun j hj => by cases hj)).grown hg6 hg5.size (fun j hj => by cases hj))
          have HR6 : Hid (Kd.R Kd.string 9 w6 wx.heap.size (fun _ => True) (.slice (some ⟨wx.heap.size, 0, none⟩) 0 (Maps.size D')) []) := Kd.R_of_own (by simpa [encs] using hrow5.kept hg6 (Or.inr (by simp [Value.ownBlock]))) (fun _ _ => trivial)
          have HRG6 := hid_ hrg6
          clear hrow5 hg5 hrg6 hg6 hs6
          go_loopw [14] (fun v wr => ∃ (left : Lit → Bool) (cnt : Nat) (ss : List (List UInt8)), Hid (wr.ranges Tryd.prog 9 trivR (wo.heap.size + 1) w5.heap.size cs.length D' left cnt) ∧ ss.length + cnt ≤ Maps.size D' ∧ Hid (Kd.R Kd.string 9 wr wx.heap.size (fun _ => True) v (ss.map ofBytes)) ∧ Hid (Collected D' left ss) ∧ Hid (Below wx.heap.size wx wr))
            (fun _ wr => wr.rangeLeft (wo.heap.size + 1) w5.heap.size)
          case atStart => exact ⟨_, _, [], HRG6.out, by simp, HR6.out, Collected.start D', HB6.out⟩
          case round =>
            obtain ⟨left, cnt, ss, hrg, hcs, hR, hC, hnx⟩ := hrel
            go_wp2_with (at_next; refine wpList_next_ranges _ rfl _ rfl 9 lawS trivR encStr id (fun key kl hk => by obtain ⟨x, hx, _⟩ := Maps.keyOf_str Tryd.underlying9 hk; exact ⟨x, hx⟩) (fun v y _ => ⟨v, rfl⟩) _ _ _ _ _ _ rfl hrg.out ?_ ?_)
            · intro hc0 hl0
              have HNM : Hid ((ss.map ofBytes).Nodup ∧ sortD (ss.map ofBytes) = sortD col) := by
                obtain ⟨h1, h2⟩ := hC.out
                refine ⟨List.pairwise_map.2 (h1.imp fun {a b} hne e => hne (by rw [← bytes_ofBytes a, ← bytes_ofBytes b, e])), asc_unique (asc_sortD _) (asc_sortD _) fun z => ?_⟩
                rw [mem_sortD, mem_sortD, List.mem_map]
                have hz : (∃ a, a ∈ ss ∧ ofBytes a = z) ↔ bytesOf z ∈ ss := ⟨fun ⟨a, ha, e⟩ => by rw [← e, bytes_ofBytes]; exact ha, fun h => ⟨_, h, ofBytes_bytes z⟩⟩
                rw [hz, h2, hl0, HHAS.out]
                have h3 := HD.out.has z
                rw [show cs.length = col.length from HLEN.out.symm, List.take_length] at h3
                rw [show Maps.has D (.string (bytesOf z)) = col.any (eqS z) from h3]
                simp only [and_true, List.any_eq_true]
                exact ⟨fun ⟨x, hx, e⟩ => by rw [eqS_iff.1 e]; exact hx, fun h => ⟨z, h, eqS_refl z⟩⟩
              have hsl : (ss.map ofBytes).length ≤ 1000000 := by rw [List.length_map]; omega
              have HSC := hid_ (sort_any hR.out HNM.out.1 hsl)
              have HRB := hid_ (Kd.R_base hR.out)
              go_wp2_with (go_at_call 33; refine HSC.out.mono ?_; rintro e w8 ⟨rfl, hR8, hg8⟩; have HB8 := hid_ (hnx.out.grown hg8 hnx.out.size HRB.out); rw [HNM.out.2] at hR8; obtain ⟨AN, cN, rfl, hcN, hCN⟩ := Kd.R_reads hR8; have HR8 := hid_ hR8; have HCN := hid_ hCN; clear hg8 hR8 hCN)
              have H8 := hid_ (below_then HBX.out HBX.out.size HB8.out)
              have HI8 : Hid (Mid w Bb cs.length wx.heap.size (wo.heap.size + 1) (wo.heap.size + 1 + 1) cs.length D (.slice AN (sortD col).length cN) (sortD col) (.slice AO (P.length + (sortD cp).length) co) (midG n P cp col 0 []) (midF P cp col 0 [] (bel0 n P cp)) w8) := by
                rw [Hid, midG_zero, midF_zero]
                have ho := HI.out.out.below H8.out
                rw [show (P ++ (sortD cp).map (mkG ((n : Int) - 1) cp)).length = P.length + (sortD cp).length from by simp] at ho
                exact ⟨below_then HI.out.below HI.out.below.size H8.out, ho, HI.out.bel.below H8.out, HR8.out, groups_below HM.out HB8.out⟩
              have hcl : (sortD col).length ≤ cs.length := by have := sortD_len col; have := HLEN.out; omega
              have hpl : P.length + (sortD cp).length ≤ 2000 * n := by have := HI.out.many; simpa using this
              have hBB : w.heap.size ≤ Bb := hBb
              have hBw : Bb < wo.heap.size := by obtain ⟨_, h1, _⟩ := HI.out.bel; exact blk_lt h1
              clear HRB HSC hsl hC hnx hR hrg hcs hc0 hl0 HB6 HR6 HRG6 hbx
              go_loopw [6, 83] (fun v i wr => ∃ kk : Nat, kk ≤ (sortD col).length ∧ i = .int .i64 kk ∧ Hid (Mid w Bb cs.length wx.heap.size (wo.heap.size + 1) (wo.heap.size + 1 + 1) cs.length D (.slice AN (sortD col).length cN) (sortD col) v (midG n P cp col kk []) (midF P cp col kk [] (bel0 n P cp)) wr))
                (fun _ i _ => (sortD col).length - (intOf i).toNat)
              case atStart => exact ⟨0, Nat.zero_le _, rfl, HI8.out⟩
              case round =>
                obtain ⟨kk, hkk, rfl, HJ⟩ := hrel
                obtain ⟨AV, cv, hvv⟩ := HJ.out.out.slice
                rw [midG_len n P cp col hkk []] at hvv
                subst hvv
                have HCPL : Hid (cp.length ≤ col.length ∧ (0 < n → cp.length = col.length ∧ cp = cs.map (gname (ls[n - 1]'(by omega))))) := by
                  refine ⟨?_, fun h0 => ?_⟩
                  · rcases Nat.eq_zero_or_pos n with h0 | h0
                    · rw [(HI.out.zero h0).2]; simp
                    · rw [HI.out.pos h0 (by omega), HLEN.out]; simp
                  · have := HI.out.pos h0 (by omega)
                    exact ⟨by rw [this, HLEN.out]; simp, this⟩
                have hgl := midG_len n P cp col hkk []
                by_cases hkl : kk < (sortD col).length
                · obtain ⟨_, _, hCN⟩ := Kd.R_reads' HJ.out.names
                  obtain ⟨gN, oN, rfl, _, _, cN0⟩ := atStr hCN (Below.refl _ _) kk hkl
                  clear hCN
                  have HNE := hid_ (colItems_ne (mem_sortD.1 (List.getElem_mem hkl)))
                  have HKEY : Hid (keyOf Tryd.prog 9 (.string (sortD col)[kk]) = some (.string (sortD col)[kk].data.toList)) := by
                    obtain ⟨i, hi, e⟩ := List.getElem_of_mem (mem_sortD.1 (List.getElem_mem hkl))
                    have hi' : i < cs.length := by rw [← HLEN.out]; exact hi
                    rw [Hid, ← e, HCOL.out i hi' hi]
                    exact keyOfS (groupL_size hfa.out.each (Nat.le_trans (takeS_le _ _) (HFC.out _ (List.getElem_mem hi'))))
                  have HZS : Hid (∀ (W : World) (base : Nat) (v : Value) (zs : List Int), D.atKey (.string (sortD col)[kk].data.toList) .nil = rowDatum .i64 v zs → W.ownsInts base 3 .i64 v zs → colItems col (sortD col)[kk] = zs) := fun W base v zs hat ho => by
                    have h1 := HD.out.zs (s := (sortD col)[kk]) hat ho
                    rw [h1, ← HLEN.out, List.take_length]
                  have HIT : Hid (∀ t (h : t < (colItems col (sortD col)[kk]).length), ∃ i, ∃ hi : i < col.length, (colItems col (sortD col)[kk])[t] = (i : Int) ∧ col[i] = (sortD col)[kk]) := fun t h => by
                    obtain ⟨i, hi, e, e'⟩ := mem_colItems.1 (List.getElem_mem h)
                    exact ⟨i, hi, e, e'⟩
                  have hitl : (colItems col (sortD col)[kk]).length ≤ cs.length := by have := colItems_len col (sortD col)[kk]; rw [HLEN.out] at this; exact this
                  have HNX := hid_ (fun (i : Nat) (hi : i < col.length) (he : col[i] = (sortD col)[kk]) its => midF_set (P := P) (cp := cp) hkl (its := its) (f0 := fun i => if n = 0 then 0 else (P.length : Int) + (posN (cp.getD i noText) (sortD cp) : Nat)) hi he)
                  have HDN := hid_ (fun t ht i hi he hc => doneT_not hkl (t := t) ht (i := i) hi he hc)
                  have hkl' := hkl
                  go_wp2_with (at_lookup; refine wpList_lookup_groups _ rfl _ _ 71 rfl 9 38 3 .i64 lawS Tryd.underlying71 (zeroInts _) (wo.heap.size + 1 + 1) (wo.heap.size + 1) cs.length _ rfl HJ.out.groups (by unfold maxLen; omega) _ _ rfl HKEY.out ?_; intro vi zs hat hoi hzl hback; obtain rfl := HZS.out _ _ _ _ hat hoi; have hhl := Held.of_owns hoi (Nat.le_trans hzl (by omega)) (show Bb < wo.heap.size + 1 + 1 by omega); clear hback hat hoi; rcases hhl with ⟨hno, _⟩ | ⟨gi, ci, celi, rfl, hci1, hci2, hci3, hci4, hci5⟩; exact absurd hno HNE.out)
                  have HH0 : Hid (Held wr Bb (colItems col (sortD col)[kk]) (.slice (some ⟨gi, 0, none⟩) (colItems col (sortD col)[kk]).length ci)) := .inr ⟨gi, ci, celi, rfl, hci1, hci2, hci3, hci4, hci5⟩
                  have HJ0 := hid_ HJ.out
                  clear hci4 hci5 hci1 hci2 hci3 cN0
                  generalize hits : colItems col (sortD col)[kk] = its at *
                  have HITS := hid_ hits
                  clear hits
                  go_loopw [91] (fun i wq => ∃ t : Nat, t ≤ its.length ∧ i = .int .i64 t ∧ Hid (Mid w Bb cs.length wx.heap.size (wo.heap.size + 1) (wo.heap.size + 1 + 1) cs.length D (.slice (some ⟨gN, oN, none⟩) (sortD col).length cN) (sortD col) (.slice AV (P.length + (sortD cp).length + kk) cv) (midG n P cp col kk (its.take t)) (midF P cp col kk (its.take t) (bel0 n P cp)) wq) ∧ Hid (Held wq Bb its (.slice (some ⟨gi, 0, none⟩) its.length ci)))
                    (fun i _ => its.length - (intOf i).toNat)
                  case atStart => exact ⟨0, Nat.zero_le _, rfl, HJ0.out, HH0.out⟩
                  case round =>
                    obtain ⟨t, htt, rfl, HQ, HH⟩ := hrel
                    by_cases htl : t < its.length
                    · obtain ⟨i, hil, eit, eci⟩ := HIT.out t htl
                      have him : i < cs.length := by rw [← HLEN.out]; exact hil
                      have c91 := HH.out.get htl
                      rw [eit] at c91
                      have HTK : Hid (its.take (t + 1) = its.take t ++ [(i : Int)]) := by rw [Hid, List.take_succ_eq_append_getElem htl, eit]
                      have HF := hid_ (HNX.out i hil eci (its.take t))
                      have HND := hid_ (HDN.out t htl i hil eit eci)
                      have HX : Hid ((P.length : Int) + ((sortD cp).length : Int) + (kk : Int) = ((P.length + (sortD cp).length : Nat) : Int) + (kk : Nat)) := by rw [Hid]; omega
                      have HFX : Hid ((fun j => if j = i then (P.length : Int) + ((sortD cp).length : Int) + (kk : Int) else midF P cp col kk (its.take t) (bel0 n P cp) j) = midF P cp col kk (its.take t ++ [(i : Int)]) (bel0 n P cp)) := by rw [Hid, HX.out]; exact HF.out
                      obtain ⟨gb, fb⟩ := HQ.out.getBel him
                      have hbw := blk_lt (show _ from HQ.out.bel.choose_spec.1)
                      rcases Nat.eq_zero_or_pos n with h0 | h0
                      · have d1 : decide ((0 : Int) < n) = false := by simp; omega
                        have HEQ : Hid (midG n P cp col kk (its.take t) = midG n P cp col kk (its.take (t + 1))) := by rw [Hid]; unfold midG; rw [(HI.out.zero h0).2]; rfl
                        have HM3 : Hid (Mid w Bb cs.length wx.heap.size (wo.heap.size + 1) (wo.heap.size + 1 + 1) cs.length D (.slice (some ⟨gN, oN, none⟩) (sortD col).length cN) (sortD col) (.slice AV (P.length + (sortD cp).length + kk) cv) (midG n P cp col kk (its.take (t + 1))) (midF P cp col kk (its.take (t + 1)) (bel0 n P cp)) (wr.setCell ⟨Bb, i, none⟩ (.int .i64 ((P.length : Int) + ((sortD cp).length : Int) + (kk : Int))))) := by
                          have h := HQ.out.setBel hBB (by omega) him ((P.length : Int) + ((sortD cp).length : Int) + (kk : Int))
                          rw [HFX.out, ← HTK.out, HEQ.out] at h
                          exact h
                        have HH2 := hid_ (fun u => HH.out.setBel i u)
                        clear HEQ HFX HF HX HTK HND
                        go_wp2
                        go_roundw
                        case rel => exact ⟨t + 1, by omega, by go_num, HM3.out, HH2.out _⟩
                        case measure => simp [intOf]; omega
                      · have d1 : decide ((0 : Int) < n) = true := by simp; omega
                        obtain ⟨hcl2, hcpe⟩ := HCPL.out.2 h0
                        have hic : i < cp.length := by omega
                        have HNEST : Hid (∀ i (h : i < cp.length) j (h' : j < cp.length) (k : i < col.length) (k' : j < col.length), cp[i] = cp[j] → col[i] = col[j]) := by
                          intro i h j h' k k' e
                          have hi' : i < cs.length := by rw [← HLEN.out]; exact k
                          have hj' : j < cs.length := by rw [← HLEN.out]; exact k'
                          rw [HCOL.out i hi' k, HCOL.out j hj' k']
                          have e1 : gname (ls[n - 1]'(by omega)) cs[i] = gname (ls[n - 1]'(by omega)) cs[j] := by
                            have x1 : cp[i] = gname (ls[n - 1]'(by omega)) cs[i] := by simp [hcpe]
                            have x2 : cp[j] = gname (ls[n - 1]'(by omega)) cs[j] := by simp [hcpe]
                            rw [← x1, ← x2, e]
                          have hnn := cols_nest HQ1.out (n := n - 1) (by omega) (HQ2.out _ (List.getElem_mem hi')).1 (HQ2.out _ (List.getElem_mem hj')).1 (HQ2.out _ (List.getElem_mem hi')).2 (HQ2.out _ (List.getElem_mem hj')).2 e1
                          simp only [Nat.sub_add_cancel h0] at hnn
                          exact hnn
                        have hqs := posN_lt (mem_sortD.2 (List.getElem_mem hic))
                        have hgl2 := midG_len n P cp col hkk (its.take t)
                        have hq' : P.length + posN cp[i] (sortD cp) < (midG n P cp col kk (its.take t)).length := by rw [hgl2]; omega
                        have hset := midG_set (lv := n) (P := P) hcl2 HNEST.out hkl' (its := its.take t) hic eci hq'
                        rw [← HX.out, ← HTK.out] at hset
                        have hf0 : midF P cp col kk (its.take t) (bel0 n P cp) i = ((P.length + posN cp[i] (sortD cp) : Nat) : Int) := by
                          unfold midF
                          rw [HND.out]
                          show (if n = 0 then (0 : Int) else _) = _
                          rw [if_neg (by omega), col_getD hic]
                          omega
                        rw [hf0] at gb
                        obtain ⟨go, co, hv, hgo, cU, fU, hkU, hM⟩ := HQ.out.setUp hq'
                        have hM1 := hM ((P.length : Int) + ((sortD cp).length : Int) + (kk : Int))
                        rw [hset] at hM1
                        obtain ⟨gb1, fb1⟩ := hM1.getBel him
                        have hM2 := hM1.setBel hBB (by omega) him ((P.length : Int) + ((sortD cp).length : Int) + (kk : Int))
                        rw [HFX.out, ← HTK.out] at hM2
                        have hh2 := (hkU _ _ HH.out (.int .i64 ((P.length : Int) + ((sortD cp).length : Int) + (kk : Int)))).setBel i (.int .i64 ((P.length : Int) + ((sortD cp).length : Int) + (kk : Int)))
                        injection hv with hv1 hv2 hv3
                        subst hv1; subst hv3
                        obtain ⟨up0, cU2⟩ : ∃ u, wr.cell? ⟨go, (P.length + posN cp[i] (sortD cp)) * 4 + 2, none⟩ = some (.int .i64 u) := ⟨_, cU⟩
                        clear hset hM hkU cU hv2
                        generalize hQ : P.length + posN cp[i] (sortD cp) = Q at *
                        have hQlt : Q < P.length + (sortD cp).length + kk := by omega
                        have HM2 := hid_ hM2
                        have HH2 := hid_ hh2
                        clear hM2 hh2 hM1 hf0 HFX HF HX HTK HND hQ hq' hgl2 hqs HNEST hcpe
                        go_wp2
                        go_roundw
                        case rel => exact ⟨t + 1, by omega, by go_num, HM2.out, HH2.out⟩
                        case measure => simp [intOf]; omega
                    · have hte : its.take t = its := List.take_of_length_le (by omega)
                      rw [hte] at HQ
                      obtain ⟨xs, hXR, hxl, hXO⟩ := HQ.out.out
                      have HXR := hid_ hXR
                      have HXO := hid_ hXO
                      have HBQ := hid_ HQ.out.below
                      have hxl2 : xs.length ≤ 20000 := by have := midG_len n P cp col hkk its; omega
                      clear hXR hXO hte
                      go_wp2_with (first | (at_lookup; refine wpList_lookup_groups _ rfl _ _ 71 rfl 9 38 3 .i64 lawS Tryd.underlying71 (zeroInts _) (wo.heap.size + 1 + 1) (wo.heap.size + 1) cs.length _ rfl HQ.out.groups (by unfold maxLen; omega) _ _ rfl HKEY.out ?_; intro vj zs hat hoi hzl hback; obtain rfl := HZS.out _ _ _ _ hat hoi; have hhl := Held.of_owns hoi (Nat.le_trans hzl (by omega)) (show Bb < wo.heap.size + 1 + 1 by omega); clear hback hat hoi; rcases hhl with ⟨hno, _⟩ | ⟨gj, cj, celj, rfl, hcj⟩; exact absurd hno HNE.out; have HP : Hid (G4ok wr Bb ((n : Int), (sortD col)[kk], (-1 : Int), (some ⟨gj, 0, none⟩, its.length, cj)) (mkG n col (sortD col)[kk])) := ⟨rfl, rfl, rfl, by show Held wr Bb (colItems col (sortD col)[kk]) _; rw [HITS.out]; exact .inr ⟨gj, cj, celj, rfl, hcj⟩⟩; clear hcj) | (at_builtin; refine Kd.R_append kG4 (w0 := w) w.heap.size rfl (.tmp 112) (.tmp 119) 31 43 (.agg #[.int .i64 0, .string ⟨#[]⟩, .int .i64 0, .slice none 0 0]) 56 rfl Tryd.underlying31 infoGroup rfl (by decide) (by omega) _ xs ((n : Int), (sortD col)[kk], (-1 : Int), (some ⟨gj, 0, none⟩, its.length, cj)) [.int .i64 n, .string (sortD col)[kk], .int .i64 (-1), .slice (some ⟨gj, 0, none⟩) its.length cj] (fun _ => True) (fun k => some k ≠ Value.ownBlock _) rfl rfl (kG4_M _ _ _ _) (fun k hk => ⟨trivial, hk⟩) (fun _ _ => trivial) HXR.out HBQ.out HBQ.out.size (by omega) ?_; intro v9 w9 ho9 hb9 hg9 hat9; have HM9 := hid_ (HQ.out.grown HXR.out hxl HXO.out HP.out ho9 hb9 hg9); clear ho9 hb9 hg9 hat9))
                      have HN9 : Hid (Mid w Bb cs.length wx.heap.size (wo.heap.size + 1) (wo.heap.size + 1 + 1) cs.length D (.slice (some ⟨gN, oN, none⟩) (sortD col).length cN) (sortD col) v9 (midG n P cp col (kk + 1) []) (midF P cp col (kk + 1) [] (bel0 n P cp)) w9) := by
                        obtain ⟨m1, m2, m3, m4, m5⟩ := HM9.out
                        rw [← HITS.out, midG_next HCPL.out.1 hkl'] at m2
                        refine ⟨m1, m2, m3.congr (fun i hi => ?_), m4, m5⟩
                        rw [← HITS.out, midF_next hkl' (by rw [HLEN.out]; exact hi)]
                      go_roundw
                      case rel => exact ⟨kk + 1, by omega, by go_num, HN9.out⟩
                      case measure => simp [intOf]; omega
                · obtain rfl : kk = (sortD col).length := by omega
                  have HNX : Hid (Lvls ls cs w Bb (n + 1) (.slice AV (P.length + (sortD cp).length + (sortD col).length) cv) (P ++ (sortD cp).map (mkF ((n : Int) - 1) (P.length + (sortD cp).length) cp col)) col wr) := by
                    have h1 := HJ.out.out
                    have e1 : (((n + 1 : Nat) : Int) - 1) = (n : Int) := by omega
                    refine ⟨HJ.out.below, ?_, HJ.out.bel.congr (fun i hi => ?_), ?_, fun h => absurd h (by omega), fun _ _ => ?_, ?_⟩
                    · rw [e1, ← midG_last HCPL.out.1]
                      exact h1
                    · have hic : i < col.length := by rw [HLEN.out]; exact hi
                      have hd : doneT col (sortD col).length [] i = true := by
                        unfold doneT
                        rw [col_getD hic]
                        simpa using posN_lt (mem_sortD.2 (List.getElem_mem hic))
                      unfold midF
                      rw [hd, if_pos rfl]
                      show _ = if n + 1 = 0 then (0 : Int) else _
                      rw [if_neg (Nat.succ_ne_zero n)]
                      simp
                    · have h2 := HI.out.tie
                      have h3 : (cols ls cs).drop n = col :: (cols ls cs).drop (n + 1) := by
                        rw [List.drop_eq_getElem_cons (by rw [cols_len]; exact hlt), cols_get hlt, HCC.out]
                      rw [h3, groupsN_two, ← List.append_assoc] at h2
                      rw [h2, e1, show ((n : Int) - 1 + 1) = n from by omega]
                      simp
                    · simp only [Nat.add_sub_cancel]
                      exact HCC.out.symm
                    · rw [List.length_append, List.length_append, List.length_map, List.length_map]
                      omega
                  go_wp2
                  go_roundw
                  case rel => exact ⟨n + 1, by omega, by go_num, _, _, HNX.out⟩
                  case measure => simp [intOf]; omega
            · intro x cv kl yd yp w7 cnt7 hkey hlk hv hat hrg7 hlt7 hg7 hs7 hen
              obtain ⟨x', ex, rfl, _⟩ := Maps.keyOf_str Tryd.underlying9 hkey
              obtain rfl : x = x' := encStr_inj ex
              have HNE := hid_ (row_ne_iter (Kd.own_of_R hR.out) hrg.out)
              have HR7 : Hid (Kd.R Kd.string 9 w7 wx.heap.size (fun _ => True) _ (ss.map ofBytes)) := Kd.R_of_own ((Kd.own_of_R hR.out).kept hg7 (Or.inr HNE.out.symm)) (fun _ _ => trivial)
              have HB7 := hid_ (hnx.out.grown hg7 hnx.out.size (fun j hj => by cases hj; exact HS5))
              have HRG7 := hid_ hrg7
              have HCS := hid_ (hC.out.step hlk hat)
              have HRG := hid_ hrg.out
              have hz7 := HB7.out.size
              have hsl : (ss.map ofBytes).length = ss.length := by rw [List.length_map]
              clear hs7 hg7 hrg7 hat hlk hkey ex hC hrg hR hnx
              go_wp2_with (at_builtin; refine Kd.R_append Kd.string (w0 := wx) wx.heap.size rfl (.tmp 75) (.tmp 77) 35 9 (.string ⟨#[]⟩) 16 rfl Tryd.underlying35 infoStr rfl (by decide) (by omega) _ _ (ofBytes x) [.string (ofBytes x)] (fun _ => True) (fun _ => False) rfl rfl rfl (fun _ hk => hk.elim) (fun _ _ => trivial) HR7.out HB7.out (by omega) (by omega) ?_; intro v9 w9 ho9 hb9 hg9 hat9; have HO9 := hid_ ho9; have HB9 := hid_ hb9; have HG9 := hid_ hg9; clear ho9 hb9 hg9 hat9)
              have HRG9 := hid_ (HRG7.out.kept HG9.out (fun e => by have := Kd.R_base HR7.out _ e.symm; omega) (row_ne_iter (Kd.own_of_R HR7.out) HRG7.out))
              go_roundw
              case rel => exact ⟨_, cnt7, ss ++ [x], HRG9.out, by simp; omega, by rw [List.map_append]; exact HO9.out, HCS.out, HB9.out⟩
              case measure => rw [HRG9.out.left_eq, HRG.out.left_eq]; exact hlt7
    · have HFIN : Hid (GroupsPost ls cs w (.returned (.tuple #[.slice AO (P ++ (sortD cp).map (mkG ((n : Int) - 1) cp)).length co, .int .i64 0])) wo) := by
        have h2 := HI.out.tie
        rw [List.drop_of_length_le (by rw [cols_len]; omega), groupsN_one] at h2
        obtain ⟨A9, c9, e9, hC9⟩ := HI.out.out.reads
        unfold GroupsPost
        rw [Hid, HX.out, h2]
        injection e9 with e9 _ _
        subst e9
        exact ⟨⟨_, _, rfl, hC9⟩, HI.out.below⟩
      go_wp2
      go_ret2
      exact HFIN.out
/-- scheme.Groups. -/
theorem sgroups_any (ls : List Level) (cs : List ByteArray) (A A2 : Option Addr) (c c2 : Nat) (w : World) (hL : Kd.C kLevel w A ls.length ls) (hf : LFit ls) (hC : Kd.C Kd.string w A2 cs.length cs) (hfc : ∀ s ∈ cs, s.size ≤ reach) (hm : cs.length ≤ 1000000) :
    Calls Tryd.prog 12 #[.slice A ls.length c, .slice A2 cs.length c2] w (GroupsPost ls cs w) := by
  by_cases h : 2000 < cs.length
  · exact sgroups_many ls cs A A2 c c2 w hm h
  · have h : cs.length ≤ 2000 := by omega
    cases q1 : rightS ls
    · exact sgroups_early ls cs A A2 c c2 w hL hf hC hfc h (.inl q1)
    · cases q2 : cs.any (fun s => !codeS s)
      · cases q3 : cs.any (shortOf ls)
        · exact sgroups_right ls cs A A2 c c2 w hL hf hC hfc h q1 q2 q3
        · exact sgroups_early ls cs A A2 c c2 w hL hf hC hfc h (.inr ⟨q1, .inr ⟨q2, q3⟩⟩)
      · exact sgroups_early ls cs A A2 c c2 w hL hf hC hfc h (.inr ⟨q1, .inl q2⟩)
end Go.Proofs.YtejmlkfdkodabaaDoor
namespace Go.Proofs.YtejmlkfdkodabaaDoor
open Go.RowKit LB Go.Proofs.YtejmlkfdkodabaaDoorW.PrintWords

theorem code_le {s : ByteArray} (h : s.size ≤ reach) : s.size ≤ 9223372036854775807 := by unfold reach at h; omega
theorem pieceOk_iff {last : Int} {p : Piece} : pieceOk last p = true ↔ last < p.id ∧ p.id ≤ 999999 ∧ 0 ≤ p.point ∧ p.point ≤ 999999 ∧ 1 ≤ p.grams ∧ p.grams ≤ 50000 ∧ codeS p.code = true := by
  unfold pieceOk
  simp only [Bool.and_eq_true, decide_eq_true_eq]
theorem pieceOk_no {last : Int} {p : Piece} (h : pieceOk last p = false) : p.id ≤ last ∨ (last < p.id ∧ (999999 < p.id ∨ (p.id ≤ 999999 ∧ (p.point < 0 ∨ (0 ≤ p.point ∧ (999999 < p.point ∨ (p.point ≤ 999999 ∧ (p.grams < 1 ∨ (1 ≤ p.grams ∧ (50000 < p.grams ∨ (p.grams ≤ 50000 ∧ codeS p.code = false))))))))))) := by
  by_cases h1 : last < p.id
  · by_cases h2 : p.id ≤ 999999
    · by_cases h3 : 0 ≤ p.point
      · by_cases h4 : p.point ≤ 999999
        · by_cases h5 : 1 ≤ p.grams
          · by_cases h6 : p.grams ≤ 50000
            · cases h7 : codeS p.code
              · simp only [h1, h2, h3, h4, h5, h6, or_true, and_self]
              · rw [pieceOk_iff.2 ⟨h1, h2, h3, h4, h5, h6, h7⟩] at h
                cases h
            · omega
          · omega
        · omega
      · omega
    · omega
  · omega
theorem piecesOk_drop {last : Int} {ps : List Piece} {k : Nat} (h : k < ps.length) : piecesOk last (ps.drop k) = (pieceOk last ps[k] && piecesOk ps[k].id (ps.drop (k + 1))) := by
  rw [List.drop_eq_getElem_cons h, piecesOk]
theorem headM_no {m : Mailing} (h : headM m = false) (h0 : 0 ≤ m.cls) : m.cls = 0 ∨ (1 ≤ m.cls ∧ (m.country < 1 ∨ (1 ≤ m.country ∧ (3 < m.country ∨ (m.country ≤ 3 ∧ (codeS m.origin = false ∨ (codeS m.origin = true ∧ 2000 < (m.pieces.length : Int)))))))) := by
  unfold headM at h
  by_cases h1 : 1 ≤ m.cls
  · by_cases h2 : 1 ≤ m.country
    · by_cases h3 : m.country ≤ 3
      · cases h4 : codeS m.origin
        · simp only [h1, h2, h3, and_self, true_or, or_true]
        · simp [h1, h2, h3, h4] at h
          exact .inr ⟨h1, .inr ⟨h2, .inr ⟨h3, .inr ⟨rfl, by omega⟩⟩⟩⟩
      · omega
    · omega
  · omega
set_option maxHeartbeats 4000000 in
theorem smail_any (m : Mailing) (A : Option Addr) (c : Nat) (w : World) (hC : Kd.C kPiece w A m.pieces.length m.pieces) (hf : m.Fit) :
    Calls Tryd.prog 52 #[.agg #[.int .u8 m.cls, .int .u8 m.country, .string m.origin, .slice A m.pieces.length c]] w fun e w' => e = .returned (.bool (mailS m)) ∧ Below w.heap.size w w' := by
  have ho := code_le hf.origin
  have hc0 := hf.cls0
  have hc1 := hf.cls1
  have hd0 := hf.ctr0
  have hd1 := hf.ctr1
  have HC := hid_ hC
  have HE := hid_ hf.each
  have hmany := hf.many
  clear hC hf
  cases hh : headM m
  · have HX : Hid (mailS m = false) := by rw [Hid, mailS, hh]; rfl
    rcases headM_no hh hc0 with h | ⟨h, h1 | ⟨h1, h2 | ⟨h2, h3 | ⟨h3, h4⟩⟩⟩⟩
    · have d1 : (m.cls == 0) = true := by simpa using h
      clear hh
      go_enter Tryd.func52, Tryd.ntmps52
      go_wp2
      go_ret
      exact ⟨ret_bool HX.out.symm, (Below.refl _ _).alloc (Nat.le_refl _) _⟩
    · have d1 : (m.cls == 0) = false := by simp; omega
      clear hh
      go_enter Tryd.func52, Tryd.ntmps52
      go_wp2
      go_ret
      exact ⟨ret_bool HX.out.symm, (Below.refl _ _).alloc (Nat.le_refl _) _⟩
    · have d1 : (m.cls == 0) = false := by simp; omega
      clear hh
      go_enter Tryd.func52, Tryd.ntmps52
      go_wp2
      go_ret
      exact ⟨ret_bool HX.out.symm, (Below.refl _ _).alloc (Nat.le_refl _) _⟩
    · have d1 : (m.cls == 0) = false := by simp; omega
      clear hh
      go_enter Tryd.func52, Tryd.ntmps52
      go_wp2_with (go_at_call 30; refine (scode_any _ _ ho).mono ?_; rintro e w1 ⟨rfl, hb1⟩; have HB1 := hid_ (below_then ((Below.refl _ _).alloc (Nat.le_refl _) _) (by simp) hb1); clear hb1)
      go_ret
      exact ⟨ret_bool HX.out.symm, HB1.out⟩
    · have d1 : (m.cls == 0) = false := by simp; omega
      clear hh
      go_enter Tryd.func52, Tryd.ntmps52
      go_wp2_with (go_at_call 30; refine (scode_any _ _ ho).mono ?_; rintro e w1 ⟨rfl, hb1⟩; have f3 := boxAt (blk_below (blk_new _ _) hb1) 3 rfl; have HB1 := hid_ (below_then ((Below.refl _ _).alloc (Nat.le_refl _) _) (by simp) hb1); clear hb1)
      go_ret
      exact ⟨ret_bool HX.out.symm, HB1.out⟩
  · have HX : Hid (mailS m = piecesOk 0 m.pieces) := by rw [Hid, mailS, hh]; rfl
    unfold headM at hh
    simp only [Bool.and_eq_true, decide_eq_true_eq] at hh
    obtain ⟨h1, h2, h3, h4, h5⟩ := hh
    have d1 : (m.cls == 0) = false := by simp; omega
    go_enter Tryd.func52, Tryd.ntmps52
    go_wp2_with (go_at_call 30; refine (scode_any _ _ ho).mono ?_; rintro e w1 ⟨rfl, hb1⟩; have f3 := boxAt (blk_below (blk_new _ _) hb1) 3 rfl; have HB1 := hid_ (below_then ((Below.refl _ _).alloc (Nat.le_refl _) _) (by simp) hb1); clear hb1)
    clear f3
    go_loopw [3, 34] (fun l i wr => ∃ k : Nat, k ≤ m.pieces.length ∧ i = .int .i64 k ∧ ∃ last : Int, l = .int .i64 last ∧ Hid (Below w.heap.size w wr) ∧ Hid (mailS m = piecesOk last (m.pieces.drop k))) (fun _ i _ => m.pieces.length - (intOf i).toNat)
    case atStart => exact ⟨0, Nat.zero_le _, rfl, 0, rfl, HB1.out, HX.out⟩
    case round =>
      obtain ⟨k, hk, rfl, last, rfl, hb, hT⟩ := hrel
      by_cases hlt : k < m.pieces.length
      · obtain ⟨g, o, rfl, hg, hg', c0, c1, c2, c3, c4⟩ := atPiece HC.out hb.out k hlt
        have hcs := code_le (HE.out _ (List.getElem_mem hlt)).code
        have HT := hid_ (hT.out.trans (piecesOk_drop hlt))
        have HBX := hid_ (below_alloc' hb.out (.cells #[.int .i64 m.pieces[k].id, .int .i64 m.pieces[k].point, .string m.pieces[k].code, .int .i64 m.pieces[k].grams, .bool m.pieces[k].barred] 57))
        have HL := hid_ (blk_new wr (.cells #[.int .i64 m.pieces[k].id, .int .i64 m.pieces[k].point, .string m.pieces[k].code, .int .i64 m.pieces[k].grams, .bool m.pieces[k].barred] 57))
        have f0 := boxAt HL.out 0 rfl
        have f1 := boxAt HL.out 1 rfl
        have f2 := boxAt HL.out 2 rfl
        have f3 := boxAt HL.out 3 rfl
        generalize m.pieces[k] = p at *
        cases hp : pieceOk last p
        · have HY : Hid (mailS m = false) := by rw [Hid, HT.out, hp]; rfl
          rcases pieceOk_no hp with q | ⟨q1, q | ⟨q2, q | ⟨q3, q | ⟨q4, q | ⟨q5, q | ⟨q6, q⟩⟩⟩⟩⟩⟩
          all_goals
            clear hp HT
            go_wp2_with (go_at_call 30; refine (scode_any _ _ hcs).mono ?_; rintro e w2 ⟨rfl, hb2⟩; have HBX := hid_ (below_then HBX.out HBX.out.size hb2); clear hb2)
            go_ret
            exact ⟨ret_bool HY.out.symm, HBX.out⟩
        · have HY : Hid (mailS m = piecesOk p.id (m.pieces.drop (k + 1))) := by rw [Hid, HT.out, hp]; rfl
          obtain ⟨q1, q2, q3, q4, q5, q6, q7⟩ := pieceOk_iff.1 hp
          clear hp HT
          go_wp2_with (go_at_call 30; refine (scode_any _ _ hcs).mono ?_; rintro e w2 ⟨rfl, hb2⟩; have HBX2 := hid_ (below_then HBX.out HBX.out.size hb2); have f0' := boxAt (blk_below HL.out hb2) 0 rfl; clear hb2)
          go_roundw
          case rel => exact ⟨k + 1, by omega, by go_num, _, rfl, HBX2.out, HY.out⟩
          case measure => simp [intOf]; omega
      · have HY : Hid (mailS m = true) := by rw [Hid, hT.out, show k = m.pieces.length from by omega, List.drop_length]; rfl
        go_wp2
        go_ret
        exact ⟨ret_bool HY.out.symm, hb.out⟩
end Go.Proofs.YtejmlkfdkodabaaDoor
namespace Go.Proofs.YtejmlkfdkodabaaDoor
open Go.RowKit LB Go.Maps Go.Sort Go.ChangeShapes Go.Proofs.YtejmlkfdkodabaaDoorW.PrintWords

/-- A row of texts that is being filled. -/
def TxtIs (W : World) (B m : Nat) (f : Nat → ByteArray) : Prop := ∃ cells : Array Value, W.heap[B]? = some (.cells cells 9 (0, 0)) ∧ m ≤ cells.size ∧ ∀ i, i < m → cells[i]? = some (.string (f i))
theorem txt_made {W : World} {base : Nat} {v : Value} {m : Nat} (h : Kd.R Kd.string 9 W base (fun _ => True) v (List.replicate m noText)) (hn : ∃ b, v.ownBlock = some b ∧ base ≤ b) : ∃ B c, v = .slice (some ⟨B, 0, none⟩) m c ∧ base ≤ B ∧ TxtIs W B m (fun _ => noText) := by
  have ho := Kd.own_of_R h
  rw [List.length_replicate] at ho
  rcases ho.2 with ⟨rfl, _⟩ | ⟨g, cap, cur, rfl, hg, hh, h1, h2, h3, h4⟩
  · obtain ⟨b, hb, _⟩ := hn
    simp [Value.ownBlock] at hb
  · refine ⟨g, cap, rfl, hg, cur, hh, by omega, fun i hi => ?_⟩
    have h5 : (cur.toList.take m)[i]? = (encs Value.string (List.replicate m noText))[i]? := by rw [← h4, Nat.mul_one]
    rw [List.getElem?_take_of_lt hi] at h5
    rw [← Array.getElem?_toList, h5]
    simp [encs, hi]
theorem TxtIs.below {W W' : World} {B m : Nat} {f : Nat → ByteArray} (h : TxtIs W B m f) (hB : Below W.heap.size W W') : TxtIs W' B m f := by
  obtain ⟨cells, h1, h2, h3⟩ := h
  exact ⟨cells, blk_below h1 hB, h2, h3⟩
theorem TxtIs.set {W : World} {B m : Nat} {f : Nat → ByteArray} (h : TxtIs W B m f) {i : Nat} (hi : i < m) (x : ByteArray) : TxtIs (W.setCell ⟨B, i, none⟩ (.string x)) B m (fun j => if j = i then x else f j) := by
  obtain ⟨cells, h1, h2, h3⟩ := h
  refine ⟨_, blk_put h1 i _ rfl, by simpa using h2, fun j hj => ?_⟩
  show _ = some (Value.string (if j = i then x else f j))
  by_cases e : j = i
  · subst e
    rw [if_pos rfl, Array.getElem?_setIfInBounds_self_of_lt (by omega)]
  · rw [if_neg e, Array.getElem?_setIfInBounds_ne (Ne.symm e)]
    exact h3 j hj
theorem TxtIs.get {W : World} {B m : Nat} {f : Nat → ByteArray} (h : TxtIs W B m f) {i : Nat} (hi : i < m) : W.cell? ⟨B, i, none⟩ = some (.string (f i)) ∧ W.frozen? ⟨B, i, none⟩ = false := by
  obtain ⟨cells, h1, h2, h3⟩ := h
  exact ⟨(blk_cell h1 i).trans (h3 i hi), blk_frozen h1 i⟩
theorem TxtIs.reads {W : World} {B : Nat} {xs : List ByteArray} {f : Nat → ByteArray} (h : TxtIs W B xs.length f) (hm : xs.length ≤ 1000000) (hf : ∀ i (h : i < xs.length), f i = xs[i]) : Kd.C Kd.string W (some ⟨B, 0, none⟩) xs.length xs := by
  refine ⟨rfl, by omega, fun _ => ⟨_, rfl, fun k z hk => ?_⟩⟩
  obtain ⟨hkl, rfl⟩ := List.getElem?_eq_some_iff.1 hk
  refine ⟨[.string xs[k]], rfl, rfl, fun i u hu => ?_⟩
  match i, hu with
  | 0, hu =>
    obtain rfl : Value.string xs[k] = u := by simpa using hu
    have h1 := (h.get hkl).1
    rw [hf k hkl] at h1
    have h2 : (if k = 0 then (⟨B, 0, none⟩ : Addr) else ⟨B, k, none⟩) = ⟨B, k, none⟩ := by
      by_cases e : k = 0
      · subst e; rfl
      · rw [if_neg e]
    simpa [Addr.add, Kd.string, Kd.scalar, h2] using h1
def presG (ls : List Level) (m : Mailing) : List Group × Int := if mailS m then groupsS ls (m.pieces.map (·.code)) else ([], 2)
def PresPost (ls : List Level) (m : Mailing) (w : World) (e : Ending) (w' : World) : Prop :=
  (∃ A c, e = .returned (.tuple #[.slice A (presG ls m).1.length c, .int .i64 (presG ls m).2]) ∧ Kd.C kGroup w' A (presG ls m).1.length (presG ls m).1) ∧ Below w.heap.size w w'
theorem mail_many {m : Mailing} (h : mailS m = true) : m.pieces.length ≤ 2000 := by
  unfold mailS headM at h
  simp only [Bool.and_eq_true, decide_eq_true_eq] at h
  exact h.1.2.2.2.2
set_option maxHeartbeats 2000000 in
set_option maxRecDepth 100000 in
theorem presgroups_any (ls : List Level) (m : Mailing) (A A2 : Option Addr) (c c2 : Nat) (w : World) (hL : Kd.C kLevel w A ls.length ls) (hf : LFit ls) (hC : Kd.C kPiece w A2 m.pieces.length m.pieces) (hm : m.Fit) :
    Calls Tryd.prog 35 #[.slice A ls.length c, .agg #[.int .u8 m.cls, .int .u8 m.country, .string m.origin, .slice A2 m.pieces.length c2]] w (PresPost ls m w) := by
  have HML := hid_ (fun (W : World) (hW : Below w.heap.size w W) => smail_any m A2 c2 W (Kd.C_below hC hW) hm)
  have HB0 := hid_ ((Below.refl w.heap.size w).alloc (Nat.le_refl _) (.cells #[.int .u8 m.cls, .int .u8 m.country, .string m.origin, .slice A2 m.pieces.length c2] 28))
  have HX0 := hid_ (blk_new w (.cells #[.int .u8 m.cls, .int .u8 m.country, .string m.origin, .slice A2 m.pieces.length c2] 28))
  have x0 := boxAt HX0.out 0 rfl
  have x1 := boxAt HX0.out 1 rfl
  have x2 := boxAt HX0.out 2 rfl
  have x3 := boxAt HX0.out 3 rfl
  have HL := hid_ hL
  have HF := hid_ hf
  have HC := hid_ hC
  have HE := hid_ hm.each
  have hmany := hm.many
  clear hL hf hC hm
  cases q : mailS m
  · have HP : Hid (presG ls m = ([], 2)) := by rw [Hid, presG, q]; rfl
    rw [q] at HML
    clear q
    go_enter Tryd.func35, Tryd.ntmps35
    go_wp2_with (go_at_call 52; refine (HML.out _ HB0.out).mono ?_; rintro e w1 ⟨rfl, hb1⟩)
    go_ret2
    unfold PresPost
    rw [HP.out]
    exact ⟨⟨none, 0, rfl, Kd.C_nil _ _⟩, below_then HB0.out HB0.out.size hb1⟩
  · have HP : Hid (presG ls m = groupsS ls (m.pieces.map (·.code))) := by rw [Hid, presG, q]; rfl
    have hml := mail_many q
    rw [q] at HML
    clear q
    go_enter Tryd.func35, Tryd.ntmps35
    go_wp2_with (first | (go_at_call 52; refine (HML.out _ HB0.out).mono ?_; rintro e w1 ⟨rfl, hb1⟩; have x13 := boxAt (blk_below HX0.out hb1) 3 rfl; have HX1 := hid_ (blk_below HX0.out hb1); have HB1 := hid_ (below_then HB0.out HB0.out.size hb1); clear hb1) | (at_make; refine Kd.R_make Kd.string (w0 := w) w.heap.size 9 rfl (N := 15) rfl 35 _ _ rfl (m.pieces.length : Int) rfl rfl Tryd.underlying35 (.string ⟨#[]⟩) 16 infoStr rfl (by decide) (by omega) noText (ok := fun _ => True) (okp := fun _ => True) rfl (fun _ hk => hk) trivial (by omega) (by omega) HB1.out HB1.out.size ?_; intro v4 w4 ho4 hb4 hg4 hn4; have x43 := boxAt (blk_grown HX1.out hg4 (by simp)) 3 rfl; obtain ⟨Bb, cb, rfl, hBb, hbel⟩ := txt_made ho4 (hn4.imp fun b hb => ⟨hb.1, Nat.le_trans HB1.out.size hb.2⟩); have HBEL := hid_ hbel; have HB4 := hid_ hb4; clear ho4 hb4 hg4 hn4 hbel))
    go_loopw [19] (fun i wr => ∃ k : Nat, k ≤ m.pieces.length ∧ i = .int .i64 k ∧ Hid (Below w.heap.size w wr) ∧ ∃ f, Hid (TxtIs wr Bb m.pieces.length f) ∧ Hid (∀ j (h : j < m.pieces.length), j < k → f j = m.pieces[j].code)) (fun i _ => m.pieces.length - (intOf i).toNat)
    case atStart => exact ⟨0, Nat.zero_le _, rfl, HB4.out, _, HBEL.out, fun j _ h => absurd h (by omega)⟩
    case round =>
      obtain ⟨k, hk, rfl, hb, f, hT, hF⟩ := hrel
      by_cases hlt : k < m.pieces.length
      · obtain ⟨g, o, rfl, hg, hg', c0, c1, c2, c3, c4⟩ := atPiece HC.out hb.out k hlt
        have HL1 := hid_ (blk_new wr (.cells #[.int .i64 m.pieces[k].id, .int .i64 m.pieces[k].point, .string m.pieces[k].code, .int .i64 m.pieces[k].grams, .bool m.pieces[k].barred] 57))
        have HBX := hid_ (below_alloc' hb.out (.cells #[.int .i64 m.pieces[k].id, .int .i64 m.pieces[k].point, .string m.pieces[k].code, .int .i64 m.pieces[k].grams, .bool m.pieces[k].barred] 57))
        have f2 := boxAt HL1.out 2 rfl
        have HT1 := hid_ (hT.out.below ((Below.refl wr.heap.size wr).alloc (Nat.le_refl _) (.cells #[.int .i64 m.pieces[k].id, .int .i64 m.pieces[k].point, .string m.pieces[k].code, .int .i64 m.pieces[k].grams, .bool m.pieces[k].barred] 57)))
        obtain ⟨t1, t2⟩ := HT1.out.get hlt
        have HT2 := hid_ (HT1.out.set hlt m.pieces[k].code)
        have HF2 : Hid (∀ j (h : j < m.pieces.length), j < k + 1 → (if j = k then m.pieces[k].code else f j) = m.pieces[j].code) := by
          intro j hj hjk
          by_cases e : j = k
          · subst e; rw [if_pos rfl]
          · rw [if_neg e]; exact hF.out j hj (by omega)
        go_wp2
        go_roundw
        case rel => exact ⟨k + 1, by omega, by go_num, below_set HBX.out hBb, _, HT2.out, HF2.out⟩
        case measure => simp [intOf]; omega
      · have HCS : Hid (Kd.C Kd.string wr (some ⟨Bb, 0, none⟩) (m.pieces.map (·.code)).length (m.pieces.map (·.code))) := TxtIs.reads (by rw [List.length_map]; exact hT.out) (by rw [List.length_map]; exact hmany) (fun i hi => by
          have hi' : i < m.pieces.length := by simpa using hi
          rw [hF.out i hi' (by omega)]
          simp)
        have HG := hid_ (sgroups_any ls (m.pieces.map (·.code)) A (some ⟨Bb, 0, none⟩) c cb wr (Kd.C_below HL.out hb.out) HF.out HCS.out (fun s hs => by obtain ⟨p, hp, rfl⟩ := List.mem_map.1 hs; exact (HE.out p hp).code) (by rw [List.length_map]; exact hmany))
        rw [List.length_map] at HG
        go_wp2_with (go_at_call 12; refine HG.out.mono ?_; rintro e w9 ⟨⟨A9, c9, rfl, hC9⟩, hb9⟩; have HC9 := hid_ hC9; have HB9 := hid_ (below_then hb.out hb.out.size hb9); clear hC9 hb9)
        go_ret2
        unfold PresPost
        rw [HP.out]
        exact ⟨⟨A9, c9, rfl, HC9.out⟩, HB9.out⟩
end Go.Proofs.YtejmlkfdkodabaaDoor
namespace Go.Proofs.YtejmlkfdkodabaaDoor
open Go.RowKit LB

theorem lvok_of {ls : List Level} (h : rightS ls = true) : LvOk ls := by
  have hr := right_iff.1 h
  refine ⟨fun lv => ?_, fun lv => ?_, fun l hl => ?_⟩
  · unfold centsAt
    cases hx : ls[lv.toNat]? with
    | none => simp
    | some x =>
      obtain ⟨hi, rfl⟩ := List.getElem?_eq_some_iff.1 hx
      obtain ⟨_, _, _, h4, h5, _⟩ := alone_gives ((hr.2.2.2 _ hi).alone)
      exact ⟨h4, h5⟩
  · unfold minAt
    cases hx : ls[lv.toNat]? with
    | none => simp
    | some x =>
      obtain ⟨hi, rfl⟩ := List.getElem?_eq_some_iff.1 hx
      obtain ⟨_, _, _, _, _, h6, h7⟩ := alone_gives ((hr.2.2.2 _ hi).alone)
      by_cases e : lv.toNat + 1 = ls.length
      · have := (h6 (by simpa using e)).2.2
        show 0 ≤ (ls[lv.toNat]).min ∧ (ls[lv.toNat]).min ≤ 2000
        omega
      · have := (h7 (by simpa using e)).2.2
        show 0 ≤ (ls[lv.toNat]).min ∧ (ls[lv.toNat]).min ≤ 2000
        omega
  · unfold minAt
    rw [Int.toNat_natCast, List.getElem?_eq_getElem (by omega)]
    obtain ⟨_, _, _, _, _, h6, _⟩ := alone_gives ((hr.2.2.2 _ (show l < ls.length by omega)).alone)
    exact (h6 (by simpa using hl)).2.2
theorem groupsN_many {M : Nat} : ∀ {C : List (List ByteArray)} {lv : Int} {off : Nat}, (∀ c ∈ C, c.length ≤ M) → (groupsN lv off C).length ≤ C.length * M
  | [], _, _, _ => by simp [groupsN]
  | [c], lv, off, h => by
    have h1 := sortD_len c
    have h2 := h c List.mem_cons_self
    rw [groupsN_one, List.length_map]
    simp
    omega
  | c :: c' :: r, lv, off, h => by
    have h1 := sortD_len c
    have h2 := h c List.mem_cons_self
    have h3 := groupsN_many (M := M) (lv := lv + 1) (off := off + (sortD c).length) (C := c' :: r) fun d hd => h d (List.mem_cons_of_mem _ hd)
    rw [groupsN_two, List.length_append, List.length_map, List.length_cons (a := c), Nat.succ_mul]
    omega
theorem presG_gs {ls : List Level} {m : Mailing} (h : (presG ls m).2 = 0) : rightS ls = true ∧ m.pieces.length ≤ 2000 ∧ (presG ls m).1.length ≤ 12000 ∧ ∃ idx, GSat 0 0 (presG ls m).1 m.pieces.length ls.length idx := by
  unfold presG at h ⊢
  split at h
  · rename_i hm
    rw [if_pos hm]
    have hml := mail_many hm
    unfold groupsS at h ⊢
    split at h
    · exact absurd h (by decide)
    · split at h
      · exact absurd h (by decide)
      · split at h
        · exact absurd h (by decide)
        · rename_i h1 h2 h3
          rw [if_neg h1, if_neg h2, if_neg h3]
          rw [Bool.or_eq_true, not_or] at h2
          have hr : rightS ls = true := by simpa using h2.1
          have hc : ∀ s ∈ m.pieces.map (·.code), codeS s = true ∧ shortOf ls s = false := fun s hs => by
            have a := h2.2
            rw [Bool.not_eq_true, List.any_eq_false] at a
            have b := h3
            rw [Bool.not_eq_true, List.any_eq_false] at b
            exact ⟨by simpa using a s hs, by simpa using b s hs⟩
          have hn := nests_cols hr hc 0
          rw [List.drop_zero, List.length_map] at hn
          have hg := gs_of (lv := 0) (off := 0) hn
          rw [cols_len] at hg
          refine ⟨hr, hml, ?_, _, hg⟩
          have h6 := (right_iff.1 hr).2.1
          have h7 := groupsN_many (M := m.pieces.length) (lv := 0) (off := 0) (C := cols ls (m.pieces.map (·.code))) (fun c hc => by
            obtain ⟨l, _, rfl⟩ := List.mem_map.1 hc
            simp)
          rw [cols_len] at h7
          refine Nat.le_trans h7 ?_
          exact Nat.le_trans (Nat.mul_le_mul h6 hml) (by decide)
  · exact absurd h (by decide)
theorem items_pos {gs : List Group} {m L : Nat} {idx : Nat → Nat → Nat} (G : GSat 0 0 gs m L idx) {i : Nat} (h : i < gs.length) : 0 < (gAt gs i).items.length := by
  obtain ⟨l, k, q1, q2, q3, q4⟩ := G.its h
  rw [q4, List.length_map]
  exact List.length_pos_of_mem (List.mem_filter.2 ⟨List.mem_range.2 q2, by simpa using q3⟩)
/-- What is known of the subgroups of a group above the first level. -/
theorem subs_known {ls : List Level} {gs : List Group} {m : Nat} {idx : Nat → Nat → Nat} (G : GSat 0 0 gs m ls.length idx) (hl : LvOk ls) {i l : Nat} (h : i < gs.length) (hlv : (gAt gs i).level = ((l + 1 : Nat) : Int)) :
    0 < (subsS gs i).length ∧ sumOf (fun c => (gAt gs c).items.length) (subsS gs i) = (gAt gs i).items.length ∧ ∀ c ∈ subsS gs i, c < gs.length ∧ c < i ∧ TabF (l + 1) (gAt gs c).items.length 1000000 (bestT ls gs c) ∧ 1 ≤ (gAt gs c).items.length := by
  obtain ⟨l', hl', e⟩ := G.level h
  have hle : l + 1 < ls.length := by rw [hlv] at e; omega
  have hs := G.subs_size h hlv hle
  refine ⟨?_, hs, fun c hc => ?_⟩
  · rcases Nat.eq_zero_or_pos (subsS gs i).length with e0 | e0
    · rw [List.length_eq_zero_iff.1 e0] at hs
      have := items_pos G h
      rw [sumOf] at hs
      omega
    · exact e0
  · obtain ⟨a1, a2, _, l2, k, q1, q2, q3, q4⟩ := G.sub hc
    have e2 : (gAt gs c).level = ((l : Nat) : Int) := by
      rw [← q3, G.lev (by omega) q2]
      have := G.lev q1 q2
      rw [q4, hlv] at this
      omega
    exact ⟨a1, a2, (tables_ok G hl a1 e2).2, items_pos G a1⟩
def planT (ls : List Level) (m : Mailing) : List Int × Int := if (presG ls m).2 = 0 then (planG ls (presG ls m).1 m.pieces.length, 0) else ([], (presG ls m).2)
end Go.Proofs.YtejmlkfdkodabaaDoor
namespace Go.Proofs.YtejmlkfdkodabaaDoor
open Go.RowKit LB Go.Maps Go.Proofs.YtejmlkfdkodabaaDoorW.PrintWords

def badN (n : Nat) (x : Int) : Bool := decide (x < 0) || decide ((n : Int) ≤ x)
def okPlan (n : Nat) (plan : List Int) : Bool := !plan.any (badN n)
theorem badN_true {n : Nat} {x : Int} (h : badN n x = true) : x < 0 ∨ (0 ≤ x ∧ (n : Int) ≤ x) := by
  unfold badN at h
  simp at h
  omega
theorem badN_false {n : Nat} {x : Int} (h : badN n x = false) : 0 ≤ x ∧ x < n := by
  unfold badN at h
  simp at h
  omega
set_option maxHeartbeats 400000 in
theorem planned1_any (x : Int) (n c b : Nat) (A : Option Addr) (w : World) (hb : w.heap[b]? = some (.cells #[.slice A n c] 25 (0, 0))) :
    Calls Tryd.prog 51 #[.int .i64 x, .pointer (some ⟨b, 0, none⟩)] w fun e w' => e = .returned (.bool (badN n x)) ∧ Below w.heap.size w w' := by
  have h0 := boxAt hb 0 rfl
  by_cases h : x < 0
  · have HV : Hid (badN n x = true) := by simp [Hid, badN, h]
    go_enter Tryd.func51, Tryd.ntmps51
    go_wp2
    go_ret
    exact ⟨ret_bool HV.out.symm, Below.refl _ _⟩
  · have HV : Hid (badN n x = decide ((n : Int) ≤ x)) := by simp [Hid, badN, h]
    go_enter Tryd.func51, Tryd.ntmps51
    go_wp2
    go_ret
    exact ⟨ret_bool HV.out.symm, Below.refl _ _⟩
set_option maxHeartbeats 400000 in
theorem planned_any (n : Nat) (A A2 : Option Addr) (c c2 : Nat) (plan : List Int) (w : World) (hC : Kd.C (Kd.int .i64) w A2 plan.length plan) (hm : plan.length ≤ 1000000) :
    Calls Tryd.prog 34 #[.slice A n c, .slice A2 plan.length c2] w fun e w' => e = .returned (.bool (okPlan n plan)) ∧ Below w.heap.size w w' := by
  have HV : Hid (okPlan n plan = !plan.any (badN n)) := hid_ rfl
  have eg := enters_of Tryd.func51 (by kernel_rfl) rfl
  have HCON := hid_ (containsInts_any 51 #[.pointer (some ⟨w.heap.size, 0, none⟩)] (badN n) plan A2 c2 (w.alloc (.cells #[.slice A n c] 25)) (Kd.C_alloc hC _) hm eg (fun W hW x _ => planned1_any x n c w.heap.size A W (blk_below (blk_new _ _) hW)))
  clear hC eg
  go_enter Tryd.func34, Tryd.ntmps34
  go_wp2_with (go_at_call 50; refine HCON.out.mono ?_; rintro e w1 ⟨rfl, hb1⟩)
  go_ret
  exact ⟨ret_bool HV.out.symm, below_then ((Below.refl _ _).alloc (Nat.le_refl _) _) (by simp) hb1⟩
end Go.Proofs.YtejmlkfdkodabaaDoor
namespace Go.Proofs.YtejmlkfdkodabaaDoor
open Go.RowKit LB Go.Maps Go.Proofs.YtejmlkfdkodabaaDoorW.PrintWords

def centsSum (ls : List Level) : List Int → Int
  | [] => 0
  | x :: r => centsAt ls x + centsSum ls r
def saveS (ls : List Level) (plan : List Int) : Int × Int :=
  if 2000 < plan.length then (0, 5) else if rightS ls && okPlan ls.length plan then (centsSum ls plan, 0) else (0, 2)
theorem centsSum_append (ls : List Level) (a b : List Int) : centsSum ls (a ++ b) = centsSum ls a + centsSum ls b := by
  induction a with
  | nil => simp [centsSum]
  | cons x r ih => rw [List.cons_append, centsSum, centsSum, ih]; omega
theorem centsSum_next (ls : List Level) {plan : List Int} {k : Nat} (h : k < plan.length) : centsSum ls (plan.take (k + 1)) = centsSum ls (plan.take k) + centsAt ls plan[k] := by
  rw [List.take_succ_eq_append_getElem h, centsSum_append]
  simp [centsSum]
theorem centsAt_eq {ls : List Level} {j : Nat} (h : j < ls.length) : centsAt ls (j : Int) = ls[j].cents := by
  unfold centsAt
  rw [Int.toNat_natCast, List.getElem?_eq_getElem h]
theorem centsAt_bound {ls : List Level} (hr : rightS ls = true) (x : Int) : 0 ≤ centsAt ls x ∧ centsAt ls x ≤ 1000000 := by
  unfold centsAt
  cases h : ls[x.toNat]? with
  | none => simp
  | some l =>
    obtain ⟨hi, rfl⟩ := List.getElem?_eq_some_iff.1 h
    obtain ⟨_, _, _, h4, h5, _⟩ := alone_gives (((right_iff.1 hr).2.2.2 _ hi).alone)
    exact ⟨h4, h5⟩
theorem centsSum_bound {ls : List Level} (hr : rightS ls = true) : ∀ plan : List Int, 0 ≤ centsSum ls plan ∧ centsSum ls plan ≤ plan.length * 1000000
  | [] => by simp [centsSum]
  | x :: r => by
    have h1 := centsAt_bound hr x
    have h2 := centsSum_bound hr r
    rw [centsSum, List.length_cons]
    omega
theorem save_many {ls : List Level} {plan : List Int} (h : 2000 < plan.length) : saveS ls plan = (0, 5) := by rw [saveS, if_pos h]
theorem save_arg {ls : List Level} {plan : List Int} (h : plan.length ≤ 2000) (h' : (rightS ls && okPlan ls.length plan) = false) : saveS ls plan = (0, 2) := by
  rw [saveS, if_neg (by omega), h']; rfl
theorem save_ok {ls : List Level} {plan : List Int} (h : plan.length ≤ 2000) (h1 : rightS ls = true) (h2 : okPlan ls.length plan = true) : saveS ls plan = (centsSum ls plan, 0) := by
  rw [saveS, if_neg (by omega), h1, h2]; rfl
set_option maxHeartbeats 1000000 in
theorem ssave_any (ls : List Level) (A A2 : Option Addr) (c c2 : Nat) (plan : List Int) (w : World) (hL : Kd.C kLevel w A ls.length ls) (hf : LFit ls) (hC : Kd.C (Kd.int .i64) w A2 plan.length plan) (hm : plan.length ≤ 1000000) :
    Calls Tryd.prog 17 #[.slice A ls.length c, .slice A2 plan.length c2] w fun e w' => e = .returned (.tuple #[.int .i64 (saveS ls plan).1, .int .i64 (saveS ls plan).2]) ∧ Below w.heap.size w w' := by
  by_cases h1 : 2000 < plan.length
  · rw [save_many h1]
    go_enter Tryd.func17, Tryd.ntmps17
    go_wp2
    go_ret2
    exact ⟨rfl, Below.refl _ _⟩
  · have HR := hid_ (sright_any ls A c w hL hf)
    have HL := hid_ hL
    have HC := hid_ hC
    have HFL := hid_ hf.many
    clear hL hC hf
    have HPL := hid_ (fun (W : World) (hB : Below w.heap.size w W) => planned_any ls.length A A2 c c2 plan W (Kd.C_below HC.out hB) hm)
    cases q1 : rightS ls
    · rw [save_arg (by omega) (by rw [q1]; rfl)]
      rw [q1] at HR
      clear q1
      go_enter Tryd.func17, Tryd.ntmps17
      go_wp2_with (go_at_call 27; refine HR.out.mono ?_; rintro e w1 ⟨rfl, hb1⟩)
      go_ret2
      exact ⟨rfl, hb1⟩
    · rw [q1] at HR
      cases q2 : okPlan ls.length plan
      · rw [save_arg (by omega) (by rw [q1, q2]; rfl)]
        rw [q2] at HPL
        clear q1 q2
        go_enter Tryd.func17, Tryd.ntmps17
        go_wp2_with (first | (go_at_call 27; refine HR.out.mono ?_; rintro e w1 ⟨rfl, hb1⟩; have HB1 := hid_ hb1; clear hb1) | (go_at_call 34; refine (HPL.out _ HB1.out).mono ?_; rintro e w2 ⟨rfl, hb2⟩))
        go_ret2
        exact ⟨rfl, below_then HB1.out HB1.out.size hb2⟩
      · rw [save_ok (by omega) q1 q2]
        rw [q2] at HPL
        have HBD := hid_ (fun k => centsSum_bound q1 (plan.take k))
        have HBA := hid_ (fun x => centsAt_bound q1 x)
        have HOK : Hid (∀ k (h : k < plan.length), 0 ≤ plan[k] ∧ plan[k] < ls.length) := fun k h => badN_false (by
          unfold okPlan at q2
          rw [Bool.not_eq_true', List.any_eq_false] at q2
          simpa using q2 _ (List.getElem_mem h))
        clear q1 q2
        go_enter Tryd.func17, Tryd.ntmps17
        go_wp2_with (first | (go_at_call 27; refine HR.out.mono ?_; rintro e w1 ⟨rfl, hb1⟩; have HB1 := hid_ hb1; clear hb1) | (go_at_call 34; refine (HPL.out _ HB1.out).mono ?_; rintro e w2 ⟨rfl, hb2⟩; have HB2 := hid_ (below_then HB1.out HB1.out.size hb2); clear hb2))
        go_loop [6, 23] (fun s i => ∃ k : Nat, k ≤ plan.length ∧ i = .int .i64 k ∧ s = .int .i64 (centsSum ls (plan.take k))) (fun _ i => plan.length - (intOf i).toNat)
        case atStart => exact ⟨0, Nat.zero_le _, rfl, rfl⟩
        case round =>
          obtain ⟨k, hk, rfl, rfl⟩ := hrel
          have hbd := HBD.out k
          have hlen : (plan.take k).length ≤ plan.length := by simp; omega
          by_cases hlt : k < plan.length
          · obtain ⟨g, o, rfl, hg, _, c0⟩ := atInt HC.out HB2.out k hlt
            obtain ⟨p1, p2⟩ := HOK.out k hlt
            have HN := hid_ (centsSum_next ls hlt)
            have HBX := HBA.out plan[k]
            generalize plan[k] = x at c0 HN p1 p2 HBX
            obtain ⟨j, rfl⟩ := Int.eq_ofNat_of_zero_le p1
            have hj : j < ls.length := by omega
            obtain ⟨g2, o2, A3, c3, rfl, _, _, _, _, _, _, e4, _, _⟩ := atLevel HL.out HB2.out j hj
            have HE := hid_ (centsAt_eq hj)
            rw [HE.out] at HBX HN
            go_wp2
            go_round
            case rel => exact ⟨k + 1, by omega, by go_num, by rw [HN.out]⟩
            case measure => simp [intOf]; omega
          · have HX : Hid (centsSum ls (plan.take k) = centsSum ls plan) := by rw [Hid, List.take_of_length_le (by omega)]
            go_wp2
            go_ret2
            refine ⟨?_, HB2.out⟩
            rw [HX.out]
            rfl
end Go.Proofs.YtejmlkfdkodabaaDoor
namespace Go.Proofs.YtejmlkfdkodabaaDoor
open Go.RowKit LB Go.Maps Go.Proofs.YtejmlkfdkodabaaDoorW.PrintWords

def validS (ls : List Level) (m : Mailing) (plan : List Int) : Bool × Int :=
  if plan.length ≠ m.pieces.length then (false, 2) else if okPlan ls.length plan = false then (false, 2) else if (presG ls m).2 ≠ 0 then (false, (presG ls m).2) else ((presG ls m).1.all (groupOk ls plan), 0)
set_option maxHeartbeats 2000000 in
set_option maxRecDepth 100000 in
theorem svalid_early (ls : List Level) (m : Mailing) (plan : List Int) (A A2 A4 : Option Addr) (c c2 c4 : Nat) (w : World) (hL : Kd.C kLevel w A ls.length ls) (hf : LFit ls) (hC : Kd.C kPiece w A2 m.pieces.length m.pieces) (hm : m.Fit) (hP : Kd.C (Kd.int .i64) w A4 plan.length plan) (hpm : plan.length ≤ 1000000)
    (h : plan.length ≠ m.pieces.length ∨ (plan.length = m.pieces.length ∧ (okPlan ls.length plan = false ∨ (okPlan ls.length plan = true ∧ (presG ls m).2 ≠ 0)))) :
    Calls Tryd.prog 15 #[.slice A ls.length c, .agg #[.int .u8 m.cls, .int .u8 m.country, .string m.origin, .slice A2 m.pieces.length c2], .slice A4 plan.length c4] w fun e w' => e = .returned (.tuple #[.bool (validS ls m plan).1, .int .i64 (validS ls m plan).2]) ∧ Below w.heap.size w w' := by
  have HB0 := hid_ ((Below.refl w.heap.size w).alloc (Nat.le_refl _) (.cells #[.int .u8 m.cls, .int .u8 m.country, .string m.origin, .slice A2 m.pieces.length c2] 28))
  have HX0 := hid_ (blk_new w (.cells #[.int .u8 m.cls, .int .u8 m.country, .string m.origin, .slice A2 m.pieces.length c2] 28))
  have x3 := boxAt HX0.out 3 rfl
  have HPL := hid_ (planned_any ls.length A A4 c c4 plan _ (Kd.C_below hP HB0.out) hpm)
  have HPG := hid_ (fun (W : World) (hW : Below w.heap.size w W) => presgroups_any ls m A A2 c c2 W (Kd.C_below hL hW) hf (Kd.C_below hC hW) hm)
  have hmany := hm.many
  clear hL hC hP hf hm
  rcases h with h | ⟨h, h1 | ⟨h1, h2⟩⟩
  · have HV : Hid (validS ls m plan = (false, 2)) := by rw [Hid, validS, if_pos h]
    have d1 : ((plan.length : Int) != (m.pieces.length : Int)) = true := by simp; omega
    rw [HV.out]
    clear h
    go_enter Tryd.func15, Tryd.ntmps15
    go_wp2
    go_ret2
    exact ⟨rfl, HB0.out⟩
  · have HV : Hid (validS ls m plan = (false, 2)) := by rw [Hid, validS, if_neg (by simp [h]), if_pos h1]
    have d1 : ((plan.length : Int) != (m.pieces.length : Int)) = false := by simp; omega
    rw [h1] at HPL
    rw [HV.out]
    clear h h1
    go_enter Tryd.func15, Tryd.ntmps15
    go_wp2_with (go_at_call 34; refine HPL.out.mono ?_; rintro e w1 ⟨rfl, hb1⟩)
    go_ret2
    exact ⟨rfl, below_then HB0.out HB0.out.size hb1⟩
  · have HV : Hid (validS ls m plan = (false, (presG ls m).2)) := by rw [Hid, validS, if_neg (by simp [h]), if_neg (by simp [h1]), if_pos h2]
    have d1 : ((plan.length : Int) != (m.pieces.length : Int)) = false := by simp; omega
    have d2 : ((presG ls m).2 != 0) = true := by simpa using h2
    rw [h1] at HPL
    rw [HV.out]
    clear h h1 h2
    go_enter Tryd.func15, Tryd.ntmps15
    go_wp2_with (first | (go_at_call 34; refine HPL.out.mono ?_; rintro e w1 ⟨rfl, hb1⟩; have x13 := boxAt (blk_below HX0.out hb1) 3 rfl; have x10 := boxAt (blk_below HX0.out hb1) 0 rfl; have x11 := boxAt (blk_below HX0.out hb1) 1 rfl; have x12 := boxAt (blk_below HX0.out hb1) 2 rfl; have HB1 := hid_ (below_then HB0.out HB0.out.size hb1); clear hb1) | (go_at_call 35; refine (HPG.out _ HB1.out).mono ?_; rintro e w2 ⟨⟨A9, c9, rfl, hC9⟩, hb2⟩; have HB2 := hid_ (below_then HB1.out HB1.out.size hb2); clear hC9 hb2))
    go_ret2
    exact ⟨rfl, HB2.out⟩
end Go.Proofs.YtejmlkfdkodabaaDoor
