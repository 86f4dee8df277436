/- Texts of one proof put together. Valid plans without groups' numbers; the plan of a mailing is valid and saves most. Plain Lean, with no program in sight. The schemes and the codes that the laws make. Plain Lean, with no program in sight. Literals: a block that is just laid is a row of its own. letterbaglaw23.Codes: codes of five digits. letterbaglaw23.Made's closure: a level more. Written by gen_add.py. -/
import Derived.Test.YtejmlkfdkodabaaDoorQxc
import Derived.Test.YtejmlkfdkodabaaDoorQxf
import Derived.Test.YtejmlkfdkodabaaDoorQxa
import Derived.KernelRfl
import Derived.Test.YtejmlkfdkodabaaDoorQxd
namespace Go.Proofs.YtejmlkfdkodabaaDoor
open LB

def codesM (m : Mailing) : List ByteArray := m.pieces.map (·.code)
theorem codesM_len (m : Mailing) : (codesM m).length = m.pieces.length := List.length_map _
structure PresOk (ls : List Level) (m : Mailing) : Prop where
  mail : mailS m = true
  right : rightS ls = true
  code : ∀ s ∈ codesM m, codeS s = true ∧ shortOf ls s = false
theorem PresOk.many {ls : List Level} {m : Mailing} (h : PresOk ls m) : m.pieces.length ≤ 2000 := mail_many h.mail
theorem PresOk.groups {ls : List Level} {m : Mailing} (h : PresOk ls m) : presG ls m = (groupsN 0 0 (cols ls (codesM m)), 0) := by
  unfold presG
  rw [if_pos h.mail]
  refine groups_ok (by rw [List.length_map]; exact h.many) h.right ?_ ?_
  · rw [List.any_eq_false]
    intro s hs
    simp [(h.code s hs).1]
  · rw [List.any_eq_false]
    intro s hs
    simp [(h.code s hs).2]
theorem presOk_iff {ls : List Level} {m : Mailing} : (presG ls m).2 = 0 ↔ PresOk ls m := by
  constructor
  · intro h
    unfold presG at h
    split at h
    · rename_i hm
      unfold groupsS at h
      split at h
      · exact absurd h (by decide)
      · split at h
        · exact absurd h (by decide)
        · split at h
          · exact absurd h (by decide)
          · rename_i h1 h2 h3
            rw [Bool.or_eq_true, not_or] at h2
            refine ⟨hm, by simpa using h2.1, fun s hs => ?_⟩
            have a := h2.2
            rw [Bool.not_eq_true, List.any_eq_false] at a
            have b := h3
            rw [Bool.not_eq_true, List.any_eq_false] at b
            exact ⟨by simpa using a s hs, by simpa using b s hs⟩
    · exact absurd h (by decide)
  · intro h; rw [h.groups]
/-- The group, by its place, that a piece has at a level. -/
def idxM (ls : List Level) (cs : List ByteArray) : Nat → Nat → Nat := idxN (cols ls cs)
theorem PresOk.gsat {ls : List Level} {m : Mailing} (h : PresOk ls m) : GSat 0 0 (presG ls m).1 m.pieces.length ls.length (idxM ls (codesM m)) := by
  rw [h.groups]
  have hn := nests_cols h.right h.code 0
  rw [List.drop_zero, codesM_len] at hn
  have hg := gs_of (lv := 0) (off := 0) hn
  rw [cols_len] at hg
  exact hg
theorem PresOk.lv {ls : List Level} {m : Mailing} (h : PresOk ls m) : LvOk ls := lvok_of h.right
theorem PresOk.some {ls : List Level} {m : Mailing} (h : PresOk ls m) : 0 < ls.length := (right_iff.1 h.right).1
theorem idxN_eq : ∀ {C : List (List ByteArray)} {l k k' m : Nat}, (∀ c ∈ C, c.length = m) → l < C.length → k < m → k' < m → (idxN C l k = idxN C l k' ↔ (C.getD l []).getD k noText = (C.getD l []).getD k' noText)
  | [], _, _, _, _, _, hl, _, _ => absurd hl (by simp)
  | c :: _, 0, k, k', m, hC, _, hk, hk' => by
    have hc := hC c List.mem_cons_self
    show posN (c.getD k noText) (sortD c) = posN (c.getD k' noText) (sortD c) ↔ c.getD k noText = c.getD k' noText
    constructor
    · intro e
      have h1 : c.getD k noText ∈ sortD c := by rw [getD_lt (by omega)]; exact mem_sortD.2 (List.getElem_mem _)
      have h2 : c.getD k' noText ∈ sortD c := by rw [getD_lt (by omega)]; exact mem_sortD.2 (List.getElem_mem _)
      have g1 := posN_get (posN_lt h1)
      have g2 := posN_get (posN_lt h2)
      rw [← g1, ← g2]
      congr 1
    · intro e; rw [e]
  | c :: r, l + 1, k, k', m, hC, hl, hk, hk' => by
    have ih := idxN_eq (C := r) (l := l) (fun d hd => hC d (List.mem_cons_of_mem _ hd)) (by simpa using hl) hk hk'
    show (sortD c).length + idxN r l k = (sortD c).length + idxN r l k' ↔ _
    rw [Nat.add_left_cancel_iff, ih]
    rfl
/-- The name of the group that a piece has at a level. -/
def nameAt (ls : List Level) (cs : List ByteArray) (l k : Nat) : ByteArray := match ls[l]? with | some x => gname x (cs.getD k noText) | none => noText
theorem idxM_eq {ls : List Level} {cs : List ByteArray} {l k k' : Nat} (hl : l < ls.length) (hk : k < cs.length) (hk' : k' < cs.length) : idxM ls cs l k = idxM ls cs l k' ↔ nameAt ls cs l k = nameAt ls cs l k' := by
  unfold idxM
  rw [idxN_eq (m := cs.length) (fun c hc => by obtain ⟨x, _, rfl⟩ := List.mem_map.1 hc; simp) (by rw [cols_len]; exact hl) hk hk']
  have e : (cols ls cs).getD l [] = cs.map (gname ls[l]) := by
    rw [List.getD_eq_getElem?_getD, List.getElem?_eq_getElem (by rw [cols_len]; exact hl), Option.getD_some, cols_get hl]
  have e2 : ∀ j, j < cs.length → ((cols ls cs).getD l []).getD j noText = nameAt ls cs l j := fun j hj => by
    rw [e]
    unfold nameAt
    rw [List.getElem?_eq_getElem hl, getD_lt (by simpa using hj), List.getElem_map, getD_lt hj]
  rw [e2 k hk, e2 k' hk']
/-- Each group takes nothing, or enough. -/
structure GOk (ls : List Level) (cs : List ByteArray) (pl : Nat → Int) : Prop where
  nn : ∀ k, k < cs.length → 0 ≤ pl k ∧ pl k < ls.length
  ok : ∀ l k, l < ls.length → k < cs.length → ((List.range cs.length).countP fun j => eqS (nameAt ls cs l j) (nameAt ls cs l k) && pl j == (l : Int)) = 0 ∨ minAt ls ((l : Nat) : Int) ≤ (((List.range cs.length).countP fun j => eqS (nameAt ls cs l j) (nameAt ls cs l k) && pl j == (l : Int) : Nat) : Int)
theorem takeN_name {ls : List Level} {cs : List ByteArray} (pl : Nat → Int) {l k : Nat} (hl : l < ls.length) (hk : k < cs.length) : takeN (idxM ls cs) cs.length pl l (idxM ls cs l k) = (List.range cs.length).countP fun j => eqS (nameAt ls cs l j) (nameAt ls cs l k) && pl j == (l : Int) := by
  unfold takeN
  refine List.countP_congr fun j hj => ?_
  have hj := List.mem_range.1 hj
  simp only [Bool.and_eq_true, beq_iff_eq]
  rw [idxM_eq hl hj hk, eqS_iff]
theorem gok_iff {ls : List Level} {cs : List ByteArray} {pl : Nat → Int} : PlOk ls cs.length (idxM ls cs) pl ↔ GOk ls cs pl := by
  constructor
  · intro h
    refine ⟨h.nn, fun l k hl hk => ?_⟩
    rw [← takeN_name pl hl hk]
    exact h.ok l k hl hk
  · intro h
    refine ⟨h.nn, fun l k hl hk => ?_⟩
    rw [takeN_name pl hl hk]
    exact h.ok l k hl hk
def plOf (q : List Int) : Nat → Int := fun k => q.getD k 0
theorem okPlan_iff {n : Nat} {q : List Int} : okPlan n q = true ↔ ∀ k, k < q.length → 0 ≤ plOf q k ∧ plOf q k < n := by
  unfold okPlan
  rw [Bool.not_eq_true', List.any_eq_false]
  constructor
  · intro h k hk
    have h1 := h _ (List.getElem_mem hk)
    unfold plOf
    rw [List.getD_eq_getElem?_getD, List.getElem?_eq_getElem hk, Option.getD_some]
    exact badN_false (by simpa using h1)
  · intro h x hx
    obtain ⟨k, hk, rfl⟩ := List.getElem_of_mem hx
    have h1 := h k hk
    unfold plOf at h1
    rw [List.getD_eq_getElem?_getD, List.getElem?_eq_getElem hk, Option.getD_some] at h1
    unfold badN
    simp
    omega
theorem taken_eq {gs : List Group} {m L : Nat} {idx : Nat → Nat → Nat} (G : GSat 0 0 gs m L idx) {l k : Nat} (hl : l < L) (hk : k < m) (q : List Int) : taken q ((l : Nat) : Int) (gAt gs (idx l k)).items = takeN idx m (plOf q) l (idx l k) := by
  obtain ⟨l', k', q1, q2, q3, q4⟩ := G.its (G.lt hl hk)
  obtain rfl := G.same q1 hl q2 hk q3
  unfold taken takeN
  rw [q4, List.filter_map, List.length_map, List.countP_eq_length_filter, List.filter_filter]
  congr 1
  refine List.filter_congr fun j _ => ?_
  show (q.getD (ofN j).toNat 0 == _ && _) = _
  unfold plOf ofN
  rw [Int.toNat_natCast, Bool.and_comm]
theorem groupOk_at {ls : List Level} {gs : List Group} {m : Nat} {idx : Nat → Nat → Nat} (G : GSat 0 0 gs m ls.length idx) {l k : Nat} (hl : l < ls.length) (hk : k < m) (q : List Int) : groupOk ls q (gAt gs (idx l k)) = true ↔ (takeN idx m (plOf q) l (idx l k) = 0 ∨ minAt ls ((l : Nat) : Int) ≤ (takeN idx m (plOf q) l (idx l k) : Nat)) := by
  unfold groupOk
  rw [G.lvl hl hk, taken_eq G hl hk, Bool.or_eq_true, beq_iff_eq, decide_eq_true_eq]
theorem all_groups {ls : List Level} {gs : List Group} {m : Nat} {idx : Nat → Nat → Nat} (G : GSat 0 0 gs m ls.length idx) (q : List Int) : gs.all (groupOk ls q) = true ↔ ∀ l k, l < ls.length → k < m → (takeN idx m (plOf q) l (idx l k) = 0 ∨ minAt ls ((l : Nat) : Int) ≤ (takeN idx m (plOf q) l (idx l k) : Nat)) := by
  rw [List.all_eq_true]
  constructor
  · intro h l k hl hk
    have hi := G.lt hl hk
    rw [← groupOk_at G hl hk, gAt_get hi]
    exact h _ (List.getElem_mem hi)
  · intro h g hg
    obtain ⟨i, hi, rfl⟩ := List.getElem_of_mem hg
    obtain ⟨l, k, q1, q2, q3, _⟩ := G.its hi
    have h1 := (groupOk_at G q1 q2 q).2 (h l k q1 q2)
    rw [q3, gAt_get hi] at h1
    exact h1
theorem valid_iff {ls : List Level} {m : Mailing} (h : PresOk ls m) {q : List Int} : validS ls m q = (true, 0) ↔ q.length = m.pieces.length ∧ GOk ls (codesM m) (plOf q) := by
  have hG := h.gsat
  have hv : q.length = m.pieces.length → okPlan ls.length q = true → validS ls m q = ((presG ls m).1.all (groupOk ls q), 0) := fun e1 e2 => by
    rw [validS, if_neg (by simp [e1]), if_neg (by simp [e2]), if_neg (by simp [presOk_iff.2 h])]
  rw [← gok_iff, codesM_len]
  constructor
  · intro hq
    by_cases e1 : q.length = m.pieces.length
    · by_cases e2 : okPlan ls.length q = true
      · rw [hv e1 e2] at hq
        have hq := (Prod.mk.injEq .. ▸ hq : _ ∧ _).1
        refine ⟨e1, ⟨fun k hk => okPlan_iff.1 e2 k (by omega), (all_groups hG q).1 hq⟩⟩
      · rw [validS, if_neg (by simp [e1]), if_pos (by simpa using e2)] at hq
        cases hq
    · rw [validS, if_pos e1] at hq
      cases hq
  · rintro ⟨e1, h1⟩
    rw [hv e1 (okPlan_iff.2 fun k hk => h1.nn k (by omega)), (all_groups hG q).2 h1.ok]
theorem valid_false {ls : List Level} {m : Mailing} (h : PresOk ls m) {q : List Int} (e1 : q.length = m.pieces.length) (e2 : okPlan ls.length q = true) (h3 : validS ls m q ≠ (true, 0)) : validS ls m q = (false, 0) := by
  have hv : validS ls m q = ((presG ls m).1.all (groupOk ls q), 0) := by
    rw [validS, if_neg (by simp [e1]), if_neg (by simp [e2]), if_neg (by simp [presOk_iff.2 h])]
  rw [hv] at h3 ⊢
  cases hb : (presG ls m).1.all (groupOk ls q)
  · rfl
  · rw [hb] at h3; exact absurd rfl h3
/-! ### What a plan saves, piece by piece -/
theorem centsSum_map (ls : List Level) (f : Nat → Int) : ∀ n, centsSum ls ((List.range n).map f) = totF (fun k => centsAt ls (f k)) n
  | 0 => rfl
  | n + 1 => by
    rw [List.range_succ, List.map_append, centsSum_append, centsSum_map ls f n, totF]
    show _ + (centsAt ls (f n) + 0) = _
    omega
theorem list_plOf (q : List Int) : (List.range q.length).map (plOf q) = q := by
  refine List.ext_getElem (by simp) fun k h1 h2 => ?_
  rw [List.getElem_map, List.getElem_range]
  unfold plOf
  rw [List.getD_eq_getElem?_getD, List.getElem?_eq_getElem h2, Option.getD_some]
theorem centsSum_plOf (ls : List Level) (q : List Int) : centsSum ls q = totF (fun k => centsAt ls (plOf q k)) q.length := by
  rw [← centsSum_map, list_plOf]
theorem last_name {ls : List Level} (h : rightS ls = true) {cs : List ByteArray} {l k : Nat} (hl : l + 1 = ls.length) : nameAt ls cs l k = noText := by
  unfold nameAt
  rw [List.getElem?_eq_getElem (show l < ls.length by omega)]
  obtain ⟨_, _, _, _, _, h6, _⟩ := alone_gives ((right_iff.1 h).2.2.2 l (by omega)).alone
  obtain ⟨a, b, _⟩ := h6 (by simpa using hl)
  show groupL (ls[l]'(by omega)).labels (takeS _ (ls[l]'(by omega)).pre) = _
  rw [a, b]
  show takeS _ 0 = _
  refine ByteArray.ext (Array.toList_inj.1 ?_)
  rw [takeS_data]
  rfl
theorem sub_root {ls : List Level} (h : rightS ls = true) {cs : List ByteArray} {pl : Nat → Int} (hp : ∀ k, k < cs.length → pl k < ls.length) {l k : Nat} (hl : l + 1 = ls.length) (hk : k < cs.length) : subW ls (idxM ls cs) cs.length pl l (idxM ls cs l k) = totF (fun k => centsAt ls (pl k)) cs.length := by
  unfold subW
  refine totF_congr fun j hj => ?_
  have := hp j hj
  rw [if_pos ((idxM_eq (by omega) hj hk).2 (by rw [last_name h hl, last_name h hl])), if_pos (by omega)]
theorem past_root {ls : List Level} {cs : List ByteArray} {pl : Nat → Int} (hp : ∀ k, k < cs.length → pl k < ls.length) {l i : Nat} (hl : l + 1 = ls.length) : pastN (idxM ls cs) cs.length pl l i = 0 := by
  unfold pastN
  rw [List.countP_eq_zero]
  intro j hj
  have := hp j (List.mem_range.1 hj)
  simp only [Bool.and_eq_true, decide_eq_true_eq]
  omega
/-- The plan of a mailing. -/
def planP (ls : List Level) (m : Mailing) : List Int := planG ls (presG ls m).1 m.pieces.length
theorem planP_len (ls : List Level) (m : Mailing) : (planP ls m).length = m.pieces.length := by simp [planP, planG]
theorem planP_at (ls : List Level) (m : Mailing) {k : Nat} (h : k < m.pieces.length) : plOf (planP ls m) k = plG ls (presG ls m).1 k := by
  unfold plOf planP planG plG
  rw [List.getD_eq_getElem?_getD, List.getElem?_eq_getElem (by simpa using h), Option.getD_some]
  simp
theorem plok_congr {ls : List Level} {m : Nat} {idx : Nat → Nat → Nat} {f g : Nat → Int} (e : ∀ k, k < m → f k = g k) (h : PlOk ls m idx f) : PlOk ls m idx g := by
  refine ⟨fun k hk => by rw [← e k hk]; exact h.nn k hk, fun l k hl hk => ?_⟩
  have : takeN idx m g l (idx l k) = takeN idx m f l (idx l k) := by
    unfold takeN
    refine List.countP_congr fun j hj => ?_
    rw [e j (List.mem_range.1 hj)]
  rw [this]
  exact h.ok l k hl hk
theorem subW_congr {ls : List Level} {m : Nat} {idx : Nat → Nat → Nat} {f g : Nat → Int} (e : ∀ k, k < m → f k = g k) (l i : Nat) : subW ls idx m f l i = subW ls idx m g l i := by
  unfold subW
  exact totF_congr fun k hk => by rw [e k hk]
theorem plan_valid {ls : List Level} {m : Mailing} (h : PresOk ls m) : validS ls m (planP ls m) = (true, 0) := by
  rw [valid_iff h, ← gok_iff, codesM_len]
  exact ⟨planP_len ls m, plok_congr (fun k hk => (planP_at ls m hk).symm) (plG_ok h.gsat h.lv h.some)⟩
theorem plan_most {ls : List Level} {m : Mailing} (h : PresOk ls m) {q : List Int} (hq : validS ls m q = (true, 0)) : centsSum ls q ≤ centsSum ls (planP ls m) := by
  obtain ⟨e1, h1⟩ := (valid_iff h).1 hq
  rw [← gok_iff, codesM_len] at h1
  have h2 := plG_ok h.gsat h.lv h.some
  rw [centsSum_plOf, centsSum_plOf, planP_len, e1]
  rcases Nat.eq_zero_or_pos m.pieces.length with e | e
  · rw [e]; exact Int.le_refl _
  · obtain ⟨l, hl⟩ : ∃ l, l + 1 = ls.length := ⟨ls.length - 1, by have := h.some; omega⟩
    have a1 := (opt_le h.gsat h.lv h1 l 0 (by omega) e).2
    have a2 := opt_eq h.gsat h.lv l 0 (by omega) e
    have a3 := plG_past h.gsat h.lv (l := l) (k := 0) (by omega) e
    have b1 := past_root (ls := ls) (cs := codesM m) (pl := plOf q) (i := idxM ls (codesM m) l 0) (fun k hk => (h1.nn k (by rw [codesM_len] at hk; exact hk)).2) hl
    have b2 := past_root (ls := ls) (cs := codesM m) (pl := plG ls (presG ls m).1) (i := idxM ls (codesM m) l 0) (fun k hk => (h2.nn k (by rw [codesM_len] at hk; exact hk)).2) hl
    have c1 := sub_root h.right (cs := codesM m) (pl := plOf q) (fun k hk => (h1.nn k (by rw [codesM_len] at hk; exact hk)).2) hl (k := 0) (by rw [codesM_len]; exact e)
    have c2 := sub_root h.right (cs := codesM m) (pl := plG ls (presG ls m).1) (fun k hk => (h2.nn k (by rw [codesM_len] at hk; exact hk)).2) hl (k := 0) (by rw [codesM_len]; exact e)
    rw [codesM_len] at b1 b2 c1 c2
    rw [b1, c1] at a1
    rw [b2] at a3
    rw [c2, ← a3] at a2
    rw [totF_congr (f := fun k => centsAt ls (plOf (planP ls m) k)) (g := fun k => centsAt ls (plG ls (presG ls m).1 k)) (fun k hk => by rw [planP_at ls m hk]), a2]
    exact a1
theorem plan_save {ls : List Level} {m : Mailing} (h : PresOk ls m) : saveS ls (planP ls m) = (centsSum ls (planP ls m), 0) := by
  have h1 := (valid_iff h).1 (plan_valid h)
  exact save_ok (by rw [planP_len]; exact h.many) h.right (okPlan_iff.2 fun k hk => h1.2.nn k (by rw [codesM_len, ← planP_len ls m]; exact hk))
/-- What a valid plan saves. -/
theorem valid_save {ls : List Level} {m : Mailing} (h : PresOk ls m) {q : List Int} (hq : validS ls m q = (true, 0)) : saveS ls q = (centsSum ls q, 0) := by
  have h1 := (valid_iff h).1 hq
  exact save_ok (by rw [h1.1]; exact h.many) h.right (okPlan_iff.2 fun k hk => h1.2.nn k (by rw [codesM_len, ← h1.1]; exact hk))
/-- One piece taken one level earlier: not valid, or less is saved. -/
theorem plan_few {ls : List Level} {m : Mailing} (h : PresOk ls m) {q : List Int} {i : Nat} (hi : i < m.pieces.length) (hq : q.length = m.pieces.length) (hp : 0 < plOf (planP ls m) i) (hqi : plOf q i = plOf (planP ls m) i - 1) (hsame : ∀ k, k < m.pieces.length → k ≠ i → plOf q k = plOf (planP ls m) k) (hv : validS ls m q = (true, 0)) : centsSum ls q < centsSum ls (planP ls m) := by
  obtain ⟨_, h1⟩ := (valid_iff h).1 hv
  rw [← gok_iff, codesM_len] at h1
  have h2 := plG_ok h.gsat h.lv h.some
  have h3 := (h2.nn i hi).2
  rw [planP_at ls m hi] at hp hqi
  obtain ⟨l, hl⟩ : ∃ l : Nat, plG ls (presG ls m).1 i = ((l + 1 : Nat) : Int) := ⟨(plG ls (presG ls m).1 i - 1).toNat, by omega⟩
  have hl1 : l + 1 < ls.length := by omega
  have h4 := opt_few h.gsat h.lv h1 hi hl (by rw [hqi, hl]; omega) (fun k hk hne => by rw [hsame k hk hne, planP_at ls m hk]) hl1
  rw [centsSum_plOf, centsSum_plOf, planP_len, hq]
  have e1 : ∀ f : Nat → Int, totF (fun k => centsAt ls (f k)) m.pieces.length = subW ls (idxM ls (codesM m)) m.pieces.length f (l + 1) (idxM ls (codesM m) (l + 1) i) + totF (fun k => if idxM ls (codesM m) (l + 1) k = idxM ls (codesM m) (l + 1) i then (if f k ≤ ((l + 1 : Nat) : Int) then 0 else centsAt ls (f k)) else centsAt ls (f k)) m.pieces.length := fun f => by
    unfold subW
    rw [← totF_add]
    refine totF_congr fun k _ => ?_
    by_cases a : idxM ls (codesM m) (l + 1) k = idxM ls (codesM m) (l + 1) i
    · rw [if_pos a, if_pos a]
      by_cases b : f k ≤ ((l + 1 : Nat) : Int)
      · rw [if_pos b, if_pos b]; omega
      · rw [if_neg b, if_neg b]; omega
    · rw [if_neg a, if_neg a]; omega
  have e0 : totF (fun k => centsAt ls (plOf (planP ls m) k)) m.pieces.length = totF (fun k => centsAt ls (plG ls (presG ls m).1 k)) m.pieces.length := totF_congr fun k hk => by rw [planP_at ls m hk]
  rw [e0, e1, e1 (plG ls (presG ls m).1)]
  have e2 : totF (fun k => if idxM ls (codesM m) (l + 1) k = idxM ls (codesM m) (l + 1) i then (if plOf q k ≤ ((l + 1 : Nat) : Int) then 0 else centsAt ls (plOf q k)) else centsAt ls (plOf q k)) m.pieces.length = totF (fun k => if idxM ls (codesM m) (l + 1) k = idxM ls (codesM m) (l + 1) i then (if plG ls (presG ls m).1 k ≤ ((l + 1 : Nat) : Int) then 0 else centsAt ls (plG ls (presG ls m).1 k)) else centsAt ls (plG ls (presG ls m).1 k)) m.pieces.length := totF_congr fun k hk => by
    by_cases a : k = i
    · subst a
      rw [if_pos rfl, if_pos rfl, if_pos (by rw [hqi, hl]; omega), if_pos (by rw [hl]; omega)]
    · rw [hsame k hk a, planP_at ls m hk]
  rw [e2]
  omega
/-- Of the pieces of a group those behind one that is passed on are not taken. -/
theorem plan_order {ls : List Level} {m : Mailing} (h : PresOk ls m) {l k k' : Nat} (h1 : l < ls.length) (h2 : k < k') (h3 : k' < m.pieces.length) (h4 : idxM ls (codesM m) l k = idxM ls (codesM m) l k') (h5 : (l : Int) < plOf (planP ls m) k) : plOf (planP ls m) k' ≠ (l : Int) := by
  rw [planP_at ls m h3]
  rw [planP_at ls m (by omega)] at h5
  exact plG_order h.gsat h.lv h1 h2 h3 h4 h5
end Go.Proofs.YtejmlkfdkodabaaDoor
namespace LB
open Go

def made5 : List ByteArray := [⟨#[49, 48, 48, 48, 48]⟩, ⟨#[49, 48, 48, 48, 49]⟩, ⟨#[49, 48, 48, 49, 48]⟩, ⟨#[49, 49, 48, 48, 48]⟩, ⟨#[50, 48, 48, 48, 48]⟩]
def made3 : List ByteArray := [⟨#[49, 48, 48]⟩, ⟨#[49, 48, 49]⟩, ⟨#[49, 49, 48]⟩, ⟨#[50, 48, 48]⟩, ⟨#[50, 48, 49]⟩, ⟨#[51, 48, 48]⟩]
def made1 : List ByteArray := [⟨#[49]⟩, ⟨#[50]⟩, ⟨#[51]⟩]
def grp5 (p : ByteArray) : ByteArray := ⟨#[72]⟩ ++ p.extract 0 3
def grp3 (p : ByteArray) : ByteArray := ⟨#[71]⟩ ++ p.extract 0 1
def grp1 (_ : ByteArray) : ByteArray := ⟨#[90]⟩
def pickL (b : Nat → Bool) (g : ByteArray → ByteArray) : Nat → List ByteArray → List Label
  | _, [] => []
  | i, p :: r => if b i = true then ⟨p, g p⟩ :: pickL b g (i + 1) r else pickL b g (i + 1) r
def minM (least : List Int) (k : Nat) : Int := match least[k]? with | some x => 1 + x | none => 1
def centsM (cents : List Int) (k : Nat) : Int := match cents[k]? with | some x => x | none => 0
def nFive : ByteArray := ⟨#[102, 105, 118, 101]⟩
def nThree : ByteArray := ⟨#[116, 104, 114, 101, 101]⟩
def nOne : ByteArray := ⟨#[111, 110, 101]⟩
def nAll : ByteArray := ⟨#[97, 108, 108]⟩
def lvM (least cents : List Int) (name : ByteArray) (pre : Int) (labels : List Label) (k : Nat) : Level := ⟨name, pre, labels, minM least k, centsM cents k⟩
def addM (least cents : List Int) (on : Bool) (name : ByteArray) (pre : Int) (labels : List Label) (ls : List Level) : List Level := if on = true then ls ++ [lvM least cents name pre labels ls.length] else ls
def made1S (b : Nat → Bool) (least cents : List Int) : List Level := addM least cents (b 0) nFive 5 (pickL b grp5 3 made5) []
def made2S (b : Nat → Bool) (least cents : List Int) : List Level := addM least cents (b 1) nThree 3 (pickL b grp3 8 made3) (made1S b least cents)
def made3S (b : Nat → Bool) (least cents : List Int) : List Level := addM least cents (b 2) nOne 1 (pickL b grp1 14 made1) (made2S b least cents)
def madeS (b : Nat → Bool) (least cents : List Int) : List Level := made3S b least cents ++ [⟨nAll, 0, [], 0, centsM cents (made3S b least cents).length⟩]

theorem pickL_mem {b : Nat → Bool} {g : ByteArray → ByteArray} {x : Label} : ∀ {ps : List ByteArray} {i : Nat}, x ∈ pickL b g i ps → x.pre ∈ ps ∧ x.grp = g x.pre
  | [], _, h => by cases h
  | p :: r, i, h => by
    rw [pickL] at h
    split at h
    · rcases List.mem_cons.1 h with rfl | h
      · exact ⟨List.mem_cons_self, rfl⟩
      · obtain ⟨h1, h2⟩ := pickL_mem h
        exact ⟨List.mem_cons_of_mem _ h1, h2⟩
    · obtain ⟨h1, h2⟩ := pickL_mem h
      exact ⟨List.mem_cons_of_mem _ h1, h2⟩
theorem pickL_len (b : Nat → Bool) (g : ByteArray → ByteArray) : ∀ (ps : List ByteArray) (i : Nat), (pickL b g i ps).length ≤ ps.length
  | [], _ => Nat.le_refl _
  | p :: r, i => by
    have := pickL_len b g r (i + 1)
    rw [pickL]
    split <;> simp <;> omega
theorem pickL_asc {b : Nat → Bool} {g : ByteArray → ByteArray} : ∀ {ps : List ByteArray} {i : Nat}, ps.Pairwise (fun p q => ltS p q = true) → (pickL b g i ps).Pairwise (fun x y => ltS x.pre y.pre = true)
  | [], _, _ => List.Pairwise.nil
  | p :: r, i, h => by
    obtain ⟨h1, h2⟩ := List.pairwise_cons.1 h
    rw [pickL]
    split
    · exact List.pairwise_cons.2 ⟨fun y hy => h1 _ (pickL_mem hy).1, pickL_asc h2⟩
    · exact pickL_asc h2
theorem pickL_snoc (b : Nat → Bool) (g : ByteArray → ByteArray) (p : ByteArray) : ∀ (ps : List ByteArray) (i : Nat), pickL b g i (ps ++ [p]) = pickL b g i ps ++ (if b (i + ps.length) = true then [⟨p, g p⟩] else [])
  | [], i => by
    rw [List.nil_append, pickL, pickL, pickL]
    simp
  | q :: r, i => by
    rw [List.cons_append, pickL, pickL, pickL_snoc b g p r (i + 1), List.length_cons, show i + 1 + r.length = i + (r.length + 1) by omega]
    split
    · rw [List.cons_append]
    · rfl
theorem pickL_next (b : Nat → Bool) (g : ByteArray → ByteArray) (i : Nat) {ps : List ByteArray} {k : Nat} (h : k < ps.length) : pickL b g i (ps.take (k + 1)) = pickL b g i (ps.take k) ++ (if b (i + k) = true then [⟨ps[k], g ps[k]⟩] else []) := by
  rw [List.take_succ_eq_append_getElem h, pickL_snoc, List.length_take, Nat.min_eq_left (Nat.le_of_lt h)]
theorem asc_of_pair : ∀ {l : List Label}, l.Pairwise (fun x y => ltS x.pre y.pre = true) → ascending l = true
  | [], _ => rfl
  | [_], _ => rfl
  | x :: y :: r, h => by
    obtain ⟨h1, h2⟩ := List.pairwise_cons.1 h
    rw [ascending, h1 y List.mem_cons_self, asc_of_pair h2]
    rfl
theorem asc5 : made5.Pairwise (fun p q => ltS p q = true) := by unfold made5; simp only [List.pairwise_cons, List.mem_cons, List.not_mem_nil, or_false, forall_eq_or_imp, forall_eq]; exact ⟨⟨by kernel_rfl, by kernel_rfl, by kernel_rfl, by kernel_rfl⟩, ⟨by kernel_rfl, by kernel_rfl, by kernel_rfl⟩, ⟨by kernel_rfl, by kernel_rfl⟩, by kernel_rfl, by simp⟩
theorem asc3 : made3.Pairwise (fun p q => ltS p q = true) := by unfold made3; simp only [List.pairwise_cons, List.mem_cons, List.not_mem_nil, or_false, forall_eq_or_imp, forall_eq]; exact ⟨⟨by kernel_rfl, by kernel_rfl, by kernel_rfl, by kernel_rfl, by kernel_rfl⟩, ⟨by kernel_rfl, by kernel_rfl, by kernel_rfl, by kernel_rfl⟩, ⟨by kernel_rfl, by kernel_rfl, by kernel_rfl⟩, ⟨by kernel_rfl, by kernel_rfl⟩, by kernel_rfl, by simp⟩
theorem asc1 : made1.Pairwise (fun p q => ltS p q = true) := by unfold made1; simp only [List.pairwise_cons, List.mem_cons, List.not_mem_nil, or_false, forall_eq_or_imp, forall_eq]; exact ⟨⟨by kernel_rfl, by kernel_rfl⟩, by kernel_rfl, by simp⟩
theorem ok5 : (made5.all fun p => labelOk 5 ⟨p, grp5 p⟩) = true := by kernel_rfl
theorem ok3 : (made3.all fun p => labelOk 3 ⟨p, grp3 p⟩) = true := by kernel_rfl
theorem ok1 : (made1.all fun p => labelOk 1 ⟨p, grp1 p⟩) = true := by kernel_rfl
theorem pick_ok {b : Nat → Bool} {g : ByteArray → ByteArray} {ps : List ByteArray} {i : Nat} {n : Int} (h : (ps.all fun p => labelOk n ⟨p, g p⟩) = true) : (pickL b g i ps).all (labelOk n) = true := by
  rw [List.all_eq_true]
  intro x hx
  obtain ⟨h1, h2⟩ := pickL_mem hx
  have h3 := List.all_eq_true.1 h _ h1
  have : x = ⟨x.pre, g x.pre⟩ := by cases x; simp only at h2; rw [h2]
  rw [this]
  exact h3
/-- What is asked of the numbers. -/
structure NumsOk (least cents : List Int) : Prop where
  least : ∀ x ∈ least, 0 ≤ x ∧ x < 256
  cents : ∀ x ∈ cents, 0 ≤ x ∧ x < 256
theorem NumsOk.min {least cents : List Int} (h : NumsOk least cents) (k : Nat) : 1 ≤ minM least k ∧ minM least k ≤ 256 := by
  unfold minM
  split
  · rename_i x hx
    have := h.least x (List.mem_of_getElem? hx)
    omega
  · omega
theorem NumsOk.cent {least cents : List Int} (h : NumsOk least cents) (k : Nat) : 0 ≤ centsM cents k ∧ centsM cents k ≤ 255 := by
  unfold centsM
  split
  · rename_i x hx
    have := h.cents x (List.mem_of_getElem? hx)
    omega
  · omega
theorem alone_made {b : Nat → Bool} {g : ByteArray → ByteArray} {ps : List ByteArray} {i : Nat} {least cents : List Int} (hn : NumsOk least cents) {name : ByteArray} {pre : Int} {k : Nat} (h0 : namedS name = true) (h1 : 0 ≤ pre) (h2 : pre ≤ 10) (h3 : (ps.all fun p => labelOk pre ⟨p, g p⟩) = true) (h4 : ps.Pairwise (fun p q => ltS p q = true)) :
    aloneS (lvM least cents name pre (pickL b g i ps) k) false = true := by
  have a := hn.min k
  have c := hn.cent k
  rw [alone_mid (headOk_of h0 h1 h2 c.1 (show centsM cents k ≤ _ by omega))]
  show ((pickL b g i ps).all (labelOk pre) && ascending (pickL b g i ps) && (decide (1 ≤ minM least k) && decide (minM least k ≤ 2000))) = true
  rw [pick_ok h3, asc_of_pair (pickL_asc h4), decide_eq_true a.1, decide_eq_true (show minM least k ≤ 2000 by omega)]
  rfl
theorem alone_all {least cents : List Int} (hn : NumsOk least cents) (k : Nat) : aloneS ⟨nAll, 0, [], 0, centsM cents k⟩ true = true := by
  have c := hn.cent k
  rw [alone_last (headOk_of (by kernel_rfl) (Int.le_refl _) (by show (0 : Int) ≤ 10; decide) c.1 (show centsM cents k ≤ _ by omega))]
  rfl
theorem find_pick {b : Nat → Bool} {g : ByteArray → ByteArray} {p : ByteArray} : ∀ {ps : List ByteArray} {i : Nat}, (∃ x ∈ pickL b g i ps, x.pre = p) → groupL (pickL b g i ps) p = g p := by
  intro ps i h
  unfold groupL
  cases hf : (pickL b g i ps).find? (fun x => eqS x.pre p) with
  | none =>
    obtain ⟨x, hx, e⟩ := h
    rw [List.find?_eq_none] at hf
    exact absurd (eqS_iff.2 e) (hf x hx)
  | some y =>
    have h1 := (pickL_mem (List.mem_of_find?_eq_some hf)).2
    have h2 := List.find?_some hf
    show y.grp = g p
    rw [h1, eqS_iff.1 h2]
theorem shared_mem {n : Int} : ∀ {l : List Label} {p : ByteArray}, p ∈ shared n l → (∃ x ∈ l, x.pre = p) ∨ ∃ x ∈ l, x.grp = p ∧ (x.grp.size : Int) = n
  | [], _, h => by cases h
  | x :: r, p, h => by
    rw [shared] at h
    rcases List.mem_cons.1 h with rfl | h
    · exact .inl ⟨x, List.mem_cons_self, rfl⟩
    · have ih : p ∈ shared n r → _ := shared_mem (l := r)
      have up : ((∃ x ∈ r, x.pre = p) ∨ ∃ x ∈ r, x.grp = p ∧ (x.grp.size : Int) = n) → ((∃ y ∈ x :: r, y.pre = p) ∨ ∃ y ∈ x :: r, y.grp = p ∧ (y.grp.size : Int) = n) := by
        rintro (⟨y, hy, e⟩ | ⟨y, hy, e⟩)
        · exact .inl ⟨y, List.mem_cons_of_mem _ hy, e⟩
        · exact .inr ⟨y, List.mem_cons_of_mem _ hy, e⟩
      split at h
      · rename_i hc
        rcases List.mem_cons.1 h with rfl | h
        · simp only [Bool.and_eq_true, decide_eq_true_eq] at hc
          exact .inr ⟨x, List.mem_cons_self, rfl, hc.1⟩
        · exact up (ih h)
      · exact up (ih h)
/-- Prefixes that share a group share the next prefix. -/
def nestOk (g : ByteArray → ByteArray) (pre next : Int) (ps : List ByteArray) : Bool := ps.all fun p => decide ((g p).size ≠ pre.toNat) && ps.all fun q => !eqS (g p) (g q) || eqS (takeS p next) (takeS q next)
theorem nested_made {b : Nat → Bool} {g : ByteArray → ByteArray} {ps : List ByteArray} {i : Nat} {least cents : List Int} {name : ByteArray} {pre : Int} {k : Nat} {next : Level} (h0 : 0 ≤ pre) (h : nestOk g pre next.pre ps = true) : nestedS (lvM least cents name pre (pickL b g i ps) k) next = true := by
  unfold nestOk at h
  rw [List.all_eq_true] at h
  have key : ∀ p, p ∈ shared pre (pickL b g i ps) → (∃ x ∈ pickL b g i ps, x.pre = p) ∧ p ∈ ps := fun p hp => by
    rcases shared_mem hp with ⟨x, hx, rfl⟩ | ⟨x, hx, rfl, e⟩
    · exact ⟨⟨x, hx, rfl⟩, (pickL_mem hx).1⟩
    · obtain ⟨h1, h2⟩ := pickL_mem hx
      have h3 := h _ h1
      rw [Bool.and_eq_true, decide_eq_true_eq] at h3
      rw [h2] at e
      exact absurd (show (g x.pre).size = pre.toNat by omega) h3.1
  unfold nestedS
  rw [List.all_eq_true]
  intro p hp
  rw [List.all_eq_true]
  intro q hq
  obtain ⟨p1, p2⟩ := key p hp
  obtain ⟨q1, q2⟩ := key q hq
  unfold agree
  show (!eqS (groupL (pickL b g i ps) p) (groupL (pickL b g i ps) q) || _) = true
  rw [find_pick p1, find_pick q1]
  have h3 := h p p2
  rw [Bool.and_eq_true] at h3
  have h4 := List.all_eq_true.1 h3.2 q q2
  rcases Bool.or_eq_true_iff.1 h4 with h5 | h5
  · rw [h5]; rfl
  · rw [eqS_iff.1 h5, eqS_refl, Bool.or_true]
theorem nested_one {b : Nat → Bool} {least cents : List Int} {name : ByteArray} {i k : Nat} {ps : List ByteArray} {next : Level} (h : next.pre = 0) : nestedS (lvM least cents name 1 (pickL b grp1 i ps) k) next = true := by
  unfold nestedS
  rw [List.all_eq_true]
  intro p _
  rw [List.all_eq_true]
  intro q _
  unfold agree
  rw [h]
  have : ∀ s : ByteArray, takeS s 0 = ⟨#[]⟩ := fun s => ByteArray.ext (Array.toList_inj.1 (by unfold takeS; simp))
  rw [this, this, eqS_refl, Bool.or_true]
theorem nest53 : nestOk grp5 5 3 made5 = true := by kernel_rfl
theorem nest51 : nestOk grp5 5 1 made5 = true := by kernel_rfl
theorem nest50 : nestOk grp5 5 0 made5 = true := by kernel_rfl
theorem nest31 : nestOk grp3 3 1 made3 = true := by kernel_rfl
theorem nest30 : nestOk grp3 3 0 made3 = true := by kernel_rfl
theorem made_right (b : Nat → Bool) {least cents : List Int} (hn : NumsOk least cents) : rightS (madeS b least cents) = true := by
  have a5 : ∀ k, aloneS (lvM least cents nFive 5 (pickL b grp5 3 made5) k) false = true := fun k => alone_made hn (by kernel_rfl) (by decide) (by decide) ok5 asc5
  have a3 : ∀ k, aloneS (lvM least cents nThree 3 (pickL b grp3 8 made3) k) false = true := fun k => alone_made hn (by kernel_rfl) (by decide) (by decide) ok3 asc3
  have a1 : ∀ k, aloneS (lvM least cents nOne 1 (pickL b grp1 14 made1) k) false = true := fun k => alone_made hn (by kernel_rfl) (by decide) (by decide) ok1 asc1
  have a0 := alone_all hn
  have n5 : ∀ k (x : Level), x.pre = 3 ∨ x.pre = 1 ∨ x.pre = 0 → nestedS (lvM least cents nFive 5 (pickL b grp5 3 made5) k) x = true := fun k x h => nested_made (by decide) (by rcases h with h | h | h <;> rw [h] <;> first | exact nest53 | exact nest51 | exact nest50)
  have n3 : ∀ k (x : Level), x.pre = 1 ∨ x.pre = 0 → nestedS (lvM least cents nThree 3 (pickL b grp3 8 made3) k) x = true := fun k x h => nested_made (by decide) (by rcases h with h | h <;> rw [h] <;> first | exact nest31 | exact nest30)
  have n1 : ∀ k (x : Level), x.pre = 0 → nestedS (lvM least cents nOne 1 (pickL b grp1 14 made1) k) x = true := fun k x h => nested_one h
  have l5 := pickL_len b grp5 made5 3
  have l3 := pickL_len b grp3 made3 8
  have l1 := pickL_len b grp1 made1 14
  have e53 : eqS nFive nThree = false := by kernel_rfl
  have e51 : eqS nFive nOne = false := by kernel_rfl
  have e50 : eqS nFive nAll = false := by kernel_rfl
  have e31 : eqS nThree nOne = false := by kernel_rfl
  have e30 : eqS nThree nAll = false := by kernel_rfl
  have e10 : eqS nOne nAll = false := by kernel_rfl
  have p5 : ∀ k, (lvM least cents nFive 5 (pickL b grp5 3 made5) k).pre = 5 := fun _ => rfl
  have p3 : ∀ k, (lvM least cents nThree 3 (pickL b grp3 8 made3) k).pre = 3 := fun _ => rfl
  have p1 : ∀ k, (lvM least cents nOne 1 (pickL b grp1 14 made1) k).pre = 1 := fun _ => rfl
  have q5 : ∀ k, (lvM least cents nFive 5 (pickL b grp5 3 made5) k).name = nFive := fun _ => rfl
  have q3 : ∀ k, (lvM least cents nThree 3 (pickL b grp3 8 made3) k).name = nThree := fun _ => rfl
  have q1 : ∀ k, (lvM least cents nOne 1 (pickL b grp1 14 made1) k).name = nOne := fun _ => rfl
  have r5 : ∀ k, (lvM least cents nFive 5 (pickL b grp5 3 made5) k).labels = pickL b grp5 3 made5 := fun _ => rfl
  have r3 : ∀ k, (lvM least cents nThree 3 (pickL b grp3 8 made3) k).labels = pickL b grp3 8 made3 := fun _ => rfl
  have r1 : ∀ k, (lvM least cents nOne 1 (pickL b grp1 14 made1) k).labels = pickL b grp1 14 made1 := fun _ => rfl
  have m5 : made5.length = 5 := rfl
  have m3 : made3.length = 6 := rfl
  have m1 : made1.length = 3 := rfl
  unfold madeS made3S made2S made1S addM
  cases b 0 <;> cases b 1 <;> cases b 2 <;>
    simp [rightS, lonely, chain, distinct, labelSum, a5, a3, a1, a0, n5, n3, n1, e53, e51, e50, e31, e30, e10, p5, p3, p1, q5, q3, q1, r5, r3, r1] <;> omega
/-! ### Codes -/
def codeS5 (x : Int) : ByteArray := ⟨#[UInt8.ofNat (49 + x.toNat % 3), UInt8.ofNat (48 + x.toNat / 3 % 3), UInt8.ofNat (48 + x.toNat / 9 % 3), UInt8.ofNat (48 + x.toNat / 27 % 3), UInt8.ofNat (48 + x.toNat / 81 % 3)]⟩
theorem code5_ok (x : Int) : codeS (codeS5 x) = true := by
  have key : ∀ a b c d e : Nat, a < 3 → b < 3 → c < 3 → d < 3 → e < 3 → codeS ⟨#[UInt8.ofNat (49 + a), UInt8.ofNat (48 + b), UInt8.ofNat (48 + c), UInt8.ofNat (48 + d), UInt8.ofNat (48 + e)]⟩ = true := by
    intro a b c d e ha hb hc hd he
    have A : ∀ n, n < 4 → codeCh (UInt8.ofNat (48 + n)) = true := by
      intro n hn
      match n, hn with
      | 0, _ => rfl
      | 1, _ => rfl
      | 2, _ => rfl
      | 3, _ => rfl
    have e1 : 49 + a = 48 + (a + 1) := by omega
    rw [e1]
    unfold codeS plainS
    show (decide (1 ≤ 5) && (decide (5 ≤ 10) && [UInt8.ofNat (48 + (a + 1)), UInt8.ofNat (48 + b), UInt8.ofNat (48 + c), UInt8.ofNat (48 + d), UInt8.ofNat (48 + e)].all codeCh)) = true
    rw [List.all_cons, List.all_cons, List.all_cons, List.all_cons, List.all_cons, A (a + 1) (by omega), A b (by omega), A c (by omega), A d (by omega), A e (by omega)]
    rfl
  exact key _ _ _ _ _ (by omega) (by omega) (by omega) (by omega) (by omega)
theorem code5_size (x : Int) : (codeS5 x).size = 5 := rfl
theorem made_first {b : Nat → Bool} {least cents : List Int} {l : Level} (h : (madeS b least cents).head? = some l) : l.pre ≤ 5 := by
  unfold madeS made3S made2S made1S addM at h
  cases h0 : b 0 <;> cases h1 : b 1 <;> cases h2 : b 2 <;> simp [h0, h1, h2] at h <;> subst h <;> simp [lvM]
theorem made_short (b : Nat → Bool) (least cents : List Int) (x : Int) : shortOf (madeS b least cents) (codeS5 x) = false := by
  unfold shortOf
  split
  · rfl
  · rename_i l r e
    have h := made_first (b := b) (least := least) (cents := cents) (l := l) (by rw [e]; rfl)
    rw [code5_size]
    simp
    omega
end LB
namespace Go.Proofs.YtejmlkfdkodabaaDoor
open Go.RowKit LB Go.Proofs.YtejmlkfdkodabaaDoorW.PrintWords

theorem reps_cons {α : Type} {R : α → List Value → Prop} {size : Nat} {ps : List α} {cs c : List Value} {p : α} (hp : R p c) (hc : c.length = size) (h : Reps R size ps cs) : Reps R size (p :: ps) (c ++ cs) := by
  have h0 : Reps R size [p] c := by
    have := Reps.snoc (Reps.none R size) hp hc
    simpa using this
  exact Kd.reps_append h0 h
/-- A literal's block is a row of its own. -/
theorem row_lit {α : Type} (d : Kd α) (W : World) (base e : Nat) (xs : List α) (inner : List Value) (hb : base ≤ W.heap.size) (hrep : Reps (d.M W base (fun _ => True)) d.sz xs inner) (hm : xs.length ≤ 9223372036854775807) :
    d.R e (W.alloc (.cells inner.toArray e)) base (fun _ => True) (.slice (some ⟨W.heap.size, 0, none⟩) xs.length xs.length) xs := by
  refine ⟨fun k hk => trivial, inner, ?_, ?_⟩
  · have h2 := World.ownsRow_lit (base := base) (e := e) (size := d.sz) W inner.toArray xs.length hb (by simpa [maxLen] using hm) (by simpa using hrep.1)
    simpa using h2
  · refine hrep.imp_ (fun p c hp => d.M_mono (fun k hk => ⟨trivial, fun he => ?_⟩) (Kd.M_below (d.M_bound hp) (below_alloc (Below.refl _ _) _)))
    have h3 : k = W.heap.size := by simpa [Value.ownBlock] using he
    have := hk.2.2.1
    omega
theorem far_base {α : Type} {d : Kd α} {e : Nat} {w : World} {base : Nat} {v : Value} {xs : List α} (h : d.R e w base (fun _ => True) v xs) {p : Addr} (hp : p.block < base) (u : Value) : d.R e (w.setCell p u) base (fun _ => True) v xs :=
  Kd.R_mono (Kd.R_far (Kd.R_bound h) (fun k hk => by have := hk.2.1; omega) u) (fun _ _ => trivial)
theorem strs_lit (W : World) (xs : List ByteArray) (hm : xs.length ≤ 1000000) : Kd.C Kd.string (W.alloc (.cells (encs Value.string xs).toArray 9)) (some ⟨W.heap.size, 0, none⟩) xs.length xs :=
  (Kd.R_reads' (row_lit Kd.string W W.heap.size 9 xs (encs Value.string xs) (Nat.le_refl _) (Kd.reps_scalar xs) (by omega))).2.2
theorem ints_lit (W : World) (xs : List Int) (hm : xs.length ≤ 1000000) : Kd.C (Kd.int .i64) (W.alloc (.cells (encs (Value.int .i64) xs).toArray 3)) (some ⟨W.heap.size, 0, none⟩) xs.length xs :=
  (Kd.R_reads' (row_lit (Kd.int .i64) W W.heap.size 3 xs (encs (Value.int .i64) xs) (Nat.le_refl _) (Kd.reps_scalar xs) (by omega))).2.2
theorem bytes_lit (W : World) (xs : List Int) (hm : xs.length ≤ 1000000) : Kd.C (Kd.int .u8) (W.alloc (.cells (encs (Value.int .u8) xs).toArray 5)) (some ⟨W.heap.size, 0, none⟩) xs.length xs :=
  (Kd.R_reads' (row_lit (Kd.int .u8) W W.heap.size 5 xs (encs (Value.int .u8) xs) (Nat.le_refl _) (Kd.reps_scalar xs) (by omega))).2.2
end Go.Proofs.YtejmlkfdkodabaaDoor
namespace Go.Proofs.YtejmlkfdkodabaaDoor
open Go.RowKit LB Go.Maps Go.Proofs.YtejmlkfdkodabaaDoorW.PrintWords

def nums5 (x : Int) : List Int := [49 + x % 3, 48 + x / 3 % 3, 48 + x / 9 % 3, 48 + x / 27 % 3, 48 + x / 81 % 3]
theorem str5 (x : Int) (h : 0 ≤ x) : strOfNums (nums5 x) = codeS5 x := by
  obtain ⟨n, rfl⟩ := Int.eq_ofNat_of_zero_le h
  unfold nums5 codeS5
  rw [Int.toNat_natCast]
  have e0 : ((49 : Int) + (n : Int) % 3) = ((49 + n % 3 : Nat) : Int) := by omega
  have e1 : ((48 : Int) + (n : Int) / 3 % 3) = ((48 + n / 3 % 3 : Nat) : Int) := by omega
  have e2 : ((48 : Int) + (n : Int) / 9 % 3) = ((48 + n / 9 % 3 : Nat) : Int) := by omega
  have e3 : ((48 : Int) + (n : Int) / 27 % 3) = ((48 + n / 27 % 3 : Nat) : Int) := by omega
  have e4 : ((48 : Int) + (n : Int) / 81 % 3) = ((48 + n / 81 % 3 : Nat) : Int) := by omega
  rw [e0, e1, e2, e3, e4]
  unfold strOfNums
  simp only [List.map_cons, List.map_nil, Int.toNat_natCast]
theorem map_next {xs : List Int} {k : Nat} (h : k < xs.length) : (xs.take (k + 1)).map codeS5 = (xs.take k).map codeS5 ++ [codeS5 xs[k]] := by
  rw [List.take_succ_eq_append_getElem h, List.map_append]; rfl
/-- A new slice of texts. -/
def StrsPost (ys : List ByteArray) (w : World) (e : Ending) (w' : World) : Prop := (∃ A c, e = .returned (.slice A ys.length c) ∧ Kd.C Kd.string w' A ys.length ys) ∧ Below w.heap.size w w'
set_option maxHeartbeats 4000000 in
set_option maxRecDepth 100000 in
theorem codes5_any (xs : List Int) (A : Option Addr) (c : Nat) (w : World) (hX : Kd.C (Kd.int .u8) w A xs.length xs) (hr : ∀ x ∈ xs, 0 ≤ x ∧ x < 256) (hm : xs.length ≤ 2000) :
    Calls Tryd.prog 26 #[.slice A xs.length c] w (StrsPost (xs.map codeS5) w) := by
  have HX := hid_ hX
  have HR := hid_ hr
  clear hX hr
  go_enter Tryd.func26, Tryd.ntmps26
  go_wp2
  go_loopw [3, 4] (fun v i wr => ∃ (k : Nat) (ys : List ByteArray), k ≤ xs.length ∧ i = .int .i64 k ∧ Hid (Below w.heap.size w wr) ∧ Hid (Kd.R Kd.string 9 wr w.heap.size (fun _ => True) v ys) ∧ Hid (ys = (xs.take k).map codeS5)) (fun _ i _ => xs.length - (intOf i).toNat)
  case atStart => exact ⟨0, [], Nat.zero_le _, rfl, Below.refl _ _, Kd.R_nil _ _ _ _ _, rfl⟩
  case round =>
    obtain ⟨k, ys, hk, rfl, hB, hR, hY⟩ := hrel
    have hyl : ys.length ≤ 2000 := by rw [hY.out, List.length_map, List.length_take]; omega
    obtain ⟨Av, cv, rfl⟩ := Kd.R_slice hR.out
    by_cases hlt : k < xs.length
    · obtain ⟨g, o, rfl, _, hg, x0⟩ := atInt HX.out hB.out k hlt
      obtain ⟨hr0, hr1⟩ := HR.out xs[k] (List.getElem_mem hlt)
      have HN := hid_ ((map_next hlt).trans (by rw [← hY.out]))
      have HS := hid_ (str5 xs[k] hr0)
      generalize xs[k] = x at *
      obtain ⟨wl, hwl⟩ : ∃ wl, wr.alloc (.cells #[.int .u8 (49 + x % 3), .int .u8 (48 + x / 3 % 3), .int .u8 (48 + x / 9 % 3), .int .u8 (48 + x / 27 % 3), .int .u8 (48 + x / 81 % 3)] 5) = wl := ⟨_, rfl⟩
      have hC : Kd.C (Kd.int .u8) wl (some ⟨wr.heap.size, 0, none⟩) 5 (nums5 x) := by rw [← hwl]; exact bytes_lit wr (nums5 x) (by unfold nums5; simp)
      have hcv := Kd.C_string (P := Tryd.prog) (src := 23) (dst := 9) (c := 5) Tryd.underlying23 Tryd.underlying5 Tryd.underlying9 hC
      rw [HS.out] at hcv
      have HBW : Hid (Below wr.heap.size wr wl) := by rw [← hwl]; exact below_alloc (Below.refl _ _) _
      have HBWW := hid_ (below_step hB.out HBW.out)
      clear hC
      have hk2 : (k : Int) < 2000 := by omega
      have hkx : (k : Int) < (xs.length : Int) := by omega
      go_wp2_with (at_builtin; refine Kd.R_append Kd.string (w0 := w) w.heap.size rfl (.tmp 21) (.tmp 48) 35 9 (.string ⟨#[]⟩) 16 rfl Tryd.underlying35 infoStr rfl (by decide) (by decide) _ ys (codeS5 x) [.string (codeS5 x)] (fun _ => True) (fun _ => False) rfl rfl rfl (fun _ hk => hk.elim) (fun _ _ => trivial) (Kd.R_below hR.out HBW.out) HBWW.out HBWW.out.size (by omega) ?_; intro v3 w3 hR3 hb3 _ _; obtain ⟨A3, c3, rfl⟩ := Kd.R_slice hR3; rw [List.length_append, List.length_singleton] at hR3; have HR3 := hid_ hR3; have HB3 := hid_ hb3; clear hR3 hb3)
      go_roundw
      case rel => exact ⟨k + 1, _, by omega, by go_num, HB3.out, HR3.out, HN.out.symm⟩
      case measure => simp [intOf]; omega
    · have hkx : ¬ ((k : Int) < (xs.length : Int)) := by omega
      have HY : Hid (ys = xs.map codeS5) := by rw [Hid, hY.out, List.take_of_length_le (by omega)]
      obtain ⟨_, h1, h2⟩ := Kd.R_reads' hR.out
      have HC := hid_ h2
      clear h2 hR
      go_wp2
      go_ret
      unfold StrsPost
      rw [← HY.out]
      exact ⟨⟨_, _, rfl, HC.out⟩, hB.out⟩
end Go.Proofs.YtejmlkfdkodabaaDoor
namespace Go.Proofs.YtejmlkfdkodabaaDoor
open Go.RowKit LB Go.Maps Go.Proofs.YtejmlkfdkodabaaDoorW.PrintWords

theorem minM_in {least : List Int} {k : Nat} (h : k < least.length) : minM least k = 1 + least[k] := by unfold minM; rw [List.getElem?_eq_getElem h]
theorem minM_out {least : List Int} {k : Nat} (h : ¬ k < least.length) : minM least k = 1 := by unfold minM; rw [List.getElem?_eq_none (by omega)]
theorem centsM_in {cents : List Int} {k : Nat} (h : k < cents.length) : centsM cents k = cents[k] := by unfold centsM; rw [List.getElem?_eq_getElem h]
theorem centsM_out {cents : List Int} {k : Nat} (h : ¬ k < cents.length) : centsM cents k = 0 := by unfold centsM; rw [List.getElem?_eq_none (by omega)]
/-- The labels' rows are none of the levels'. -/
theorem labels_apart {W : World} {base : Nat} {v vl : Value} {ls : List Level} {labels : List Label} (hv : Kd.R kLevel 41 W base (fun _ => True) v ls) (hl : Kd.R kLabel 87 W base (fun _ => True) vl labels) : Kd.R kLabel 87 W base (fun k => some k ≠ v.ownBlock) vl labels := by
  obtain ⟨inner, ho⟩ := Kd.R_own hv
  cases e : v.ownBlock with
  | none => exact Kd.R_mono hl (fun k _ h => by cases h)
  | some g =>
    obtain ⟨cells, hc⟩ := own_typed ho g e
    exact Kd.R_mono (Kd.R_types hl hc (fun q hq => by
      have h1 : q = 87 ∨ q ∈ kLabel.E := by simpa using hq
      have h2 : kLabel.E = [] := rfl
      rw [h2] at h1
      rcases h1 with rfl | h1
      · decide
      · cases h1)) (fun k hk h => hk.2 (by injection h))
/-- Levels that are being added: the variable, its rows. -/
structure LvsIs (W : World) (bo base : Nat) (ls : List Level) : Prop where
  some : ∃ v, W.heap[bo]? = some (.cells #[v] 25 (0, 0)) ∧ Kd.R kLevel 41 W base (fun _ => True) v ls
def AddPost (ls' : List Level) (bo base : Nat) (w : World) (e : Ending) (w' : World) : Prop :=
  e = .returned (.tuple #[]) ∧ LvsIs w' bo base ls' ∧ (∀ k, k < base → k ≠ bo → w'.heap[k]? = w.heap[k]?) ∧ ∀ w0 h, h ≤ bo → h ≤ base → Below h w0 w → Below h w0 w'
theorem add_post {w wl w3 : World} {bo base : Nat} {v v3 : Value} {ls' : List Level} (hbb : bo < base) (hbw : base ≤ w.heap.size) (h1 : w.heap[bo]? = some (.cells #[v] 25 (0, 0))) (hB : Below w.heap.size w wl) (hR : Kd.R kLevel 41 w3 base (fun _ => True) v3 ls') (hB3 : Below base wl w3) :
    AddPost ls' bo base w (.returned (.tuple #[])) (w3.setCell ⟨bo, 0, none⟩ v3) := by
  have hb1 : Below base w wl := hB.mono hbw
  have hb2 : Below base w w3 := hb1.trans (hB3.mono (by have := hB.size; omega))
  have hc3 : w3.heap[bo]? = some (.cells #[v] 25 (0, 0)) := (hb2.block bo hbb).trans h1
  refine ⟨rfl, ⟨v3, ?_, ?_⟩, fun k hk hne => ?_, fun w0 h hh hh2 hb => ?_⟩
  · exact blk_put hc3 0 v3 rfl
  · exact far_base hR (by simpa using hbb) _
  · exact (Below.heap_setCell w3 _ v3 k hne).trans (hb2.block k hk)
  · exact (hb.trans (hb2.mono hh2)).setCell hh _
set_option maxHeartbeats 4000000 in
set_option maxRecDepth 100000 in
theorem add_any (least cents : List Int) (name : ByteArray) (pre : Int) (labels : List Label) (ls : List Level) (vl : Value) (bl bc bo base : Nat) (Al Ac : Option Addr) (cl cc : Nat) (w : World)
    (hO : LvsIs w bo base ls) (hbl : w.heap[bl]? = some (.cells #[.slice Al least.length cl] 23 (0, 0))) (hbc : w.heap[bc]? = some (.cells #[.slice Ac cents.length cc] 23 (0, 0)))
    (hL : Kd.C (Kd.int .u8) w Al least.length least) (hC : Kd.C (Kd.int .u8) w Ac cents.length cents) (hn : NumsOk least cents) (hlab : Kd.R kLabel 87 w base (fun _ => True) vl labels) (hbb : bo < base) (hbw : base ≤ w.heap.size) (hls : ls.length ≤ 10) :
    Calls Tryd.prog 40 #[.agg #[.string name, .int .i64 pre, vl, .int .i64 0, .int .i64 0], .pointer (some ⟨bo, 0, none⟩), .pointer (some ⟨bl, 0, none⟩), .pointer (some ⟨bc, 0, none⟩)] w
      (AddPost (ls ++ [lvM least cents name pre labels ls.length]) bo base w) := by
  obtain ⟨⟨v, hv1, hv2⟩⟩ := hO
  obtain ⟨Av, cv, rfl⟩ := Kd.R_slice hv2
  obtain ⟨Ab, cb, rfl⟩ := Kd.R_slice hlab
  have x0 := boxAt hv1 0 rfl
  have y0 := boxAt hbl 0 rfl
  have z0 := boxAt hbc 0 rfl
  have hlll : least.length ≤ 9223372036854775807 := hL.2.1
  have hccl : cents.length ≤ 9223372036854775807 := hC.2.1
  have hob := blk_lt hv1
  have hbl1 := blk_lt hbl
  have hbc1 := blk_lt hbc
  have HV1 := hid_ hv1
  have HV2 := hid_ hv2
  have HLB := hid_ (labels_apart hv2 hlab)
  have HL := hid_ hL
  have HC := hid_ hC
  have HN := hid_ hn
  clear hv1 hv2 hlab hL hC hn hbl hbc
  by_cases h1 : ls.length < least.length
  · by_cases h2 : ls.length < cents.length
    · have HM := hid_ (minM_in (least := least) h1)
      have HCT := hid_ (centsM_in (cents := cents) h2)
      obtain ⟨ga, oa, rfl, _, hga, la⟩ := atInt HL.out (Below.refl _ _) ls.length h1
      obtain ⟨la0, la1⟩ := HN.out.least least[ls.length] (List.getElem_mem h1)
      generalize least[ls.length] = la' at la la0 la1 HM
      obtain ⟨gc, oc, rfl, _, hgc, ca⟩ := atInt HC.out (Below.refl _ _) ls.length h2
      obtain ⟨ca0, ca1⟩ := HN.out.cents cents[ls.length] (List.getElem_mem h2)
      generalize cents[ls.length] = ca' at ca ca0 ca1 HCT
      obtain ⟨wl, hwl⟩ : ∃ wl, w.alloc (.cells #[.string name, .int .i64 pre, .slice Ab labels.length cb, .int .i64 (1 + la'), .int .i64 ca'] 41) = wl := ⟨_, rfl⟩
      have HBW : Hid (Below w.heap.size w wl) := by rw [← hwl]; exact below_alloc (Below.refl _ _) _
      have HSZ := hid_ (Nat.le_trans hbw HBW.out.size)
      have HVW := hid_ (Kd.R_below HV2.out HBW.out)
      have HPM : Hid (kLevel.M wl base (fun k => some k ≠ (Value.slice Av ls.length cv).ownBlock) (lvM least cents name pre labels ls.length) [.string name, .int .i64 pre, .slice Ab labels.length cb, .int .i64 (1 + la'), .int .i64 ca']) := by
        have h9 := kLevel_mkM wl base (fun k => some k ≠ (Value.slice Av ls.length cv).ownBlock) (lvM least cents name pre labels ls.length) (Kd.R_below HLB.out HBW.out)
        unfold lvM at h9 ⊢
        rw [HM.out, HCT.out] at h9 ⊢
        exact h9
      have x1 := cellB HBW.out x0
      have y1 := cellB HBW.out y0
      have z1 := cellB HBW.out z0
      have HWX : Hid (wl.heap[w.heap.size]? = some (.cells #[.string name, .int .i64 pre, .slice Ab labels.length cb, .int .i64 (1 + la'), .int .i64 ca'] 41 (0, 0))) := by rw [← hwl]; exact blk_new _ _
      have e0 := boxAt HWX.out 0 rfl
      have e1 := boxAt HWX.out 1 rfl
      have e2 := boxAt HWX.out 2 rfl
      have e3 := boxAt HWX.out 3 rfl
      have e4 := boxAt HWX.out 4 rfl
      have hob2 : bo < wl.heap.size := Nat.lt_of_lt_of_le hob HBW.out.size
      have q1 := blk_frozen (blk_below HV1.out HBW.out) 0
      go_enter Tryd.func40, Tryd.ntmps40
      go_wp2_with (at_builtin; refine Kd.R_append kLevel (w0 := wl) base rfl (.tmp 30) (.tmp 32) 25 41 (.agg #[.string ⟨#[]⟩, .int .i64 0, .slice none 0 0, .int .i64 0, .int .i64 0]) 64 rfl Tryd.underlying25 infoLevel rfl (by decide) (by decide) _ ls (lvM least cents name pre labels ls.length) _ (fun _ => True) (fun k => some k ≠ (Value.slice Av ls.length cv).ownBlock) rfl rfl HPM.out (fun _ hk => ⟨trivial, hk⟩) (fun _ _ => trivial) HVW.out (Below.refl _ _) HSZ.out (by omega) ?_; intro v3 w3 hR3 hb3 _ _; obtain ⟨A3, c3, rfl⟩ := Kd.R_slice hR3; rw [List.length_append, List.length_singleton] at hR3; have HX3 := hid_ ((hb3.block bo hbb).trans (blk_below HV1.out HBW.out)); have u3 := boxAt HX3.out 0 rfl; have q3 := blk_frozen HX3.out 0; have HR3 := hid_ hR3; have HB3 := hid_ hb3; clear hR3 hb3)
      go_end0
      exact add_post hbb hbw HV1.out HBW.out HR3.out HB3.out
    · have HM := hid_ (minM_in (least := least) h1)
      have HCT := hid_ (centsM_out (cents := cents) h2)
      obtain ⟨ga, oa, rfl, _, hga, la⟩ := atInt HL.out (Below.refl _ _) ls.length h1
      obtain ⟨la0, la1⟩ := HN.out.least least[ls.length] (List.getElem_mem h1)
      generalize least[ls.length] = la' at la la0 la1 HM
      obtain ⟨wl, hwl⟩ : ∃ wl, w.alloc (.cells #[.string name, .int .i64 pre, .slice Ab labels.length cb, .int .i64 (1 + la'), .int .i64 0] 41) = wl := ⟨_, rfl⟩
      have HBW : Hid (Below w.heap.size w wl) := by rw [← hwl]; exact below_alloc (Below.refl _ _) _
      have HSZ := hid_ (Nat.le_trans hbw HBW.out.size)
      have HVW := hid_ (Kd.R_below HV2.out HBW.out)
      have HPM : Hid (kLevel.M wl base (fun k => some k ≠ (Value.slice Av ls.length cv).ownBlock) (lvM least cents name pre labels ls.length) [.string name, .int .i64 pre, .slice Ab labels.length cb, .int .i64 (1 + la'), .int .i64 0]) := by
        have h9 := kLevel_mkM wl base (fun k => some k ≠ (Value.slice Av ls.length cv).ownBlock) (lvM least cents name pre labels ls.length) (Kd.R_below HLB.out HBW.out)
        unfold lvM at h9 ⊢
        rw [HM.out, HCT.out] at h9 ⊢
        exact h9
      have x1 := cellB HBW.out x0
      have y1 := cellB HBW.out y0
      have z1 := cellB HBW.out z0
      have HWX : Hid (wl.heap[w.heap.size]? = some (.cells #[.string name, .int .i64 pre, .slice Ab labels.length cb, .int .i64 (1 + la'), .int .i64 0] 41 (0, 0))) := by rw [← hwl]; exact blk_new _ _
      have e0 := boxAt HWX.out 0 rfl
      have e1 := boxAt HWX.out 1 rfl
      have e2 := boxAt HWX.out 2 rfl
      have e3 := boxAt HWX.out 3 rfl
      have e4 := boxAt HWX.out 4 rfl
      have hob2 : bo < wl.heap.size := Nat.lt_of_lt_of_le hob HBW.out.size
      have q1 := blk_frozen (blk_below HV1.out HBW.out) 0
      go_enter Tryd.func40, Tryd.ntmps40
      go_wp2_with (at_builtin; refine Kd.R_append kLevel (w0 := wl) base rfl (.tmp 30) (.tmp 32) 25 41 (.agg #[.string ⟨#[]⟩, .int .i64 0, .slice none 0 0, .int .i64 0, .int .i64 0]) 64 rfl Tryd.underlying25 infoLevel rfl (by decide) (by decide) _ ls (lvM least cents name pre labels ls.length) _ (fun _ => True) (fun k => some k ≠ (Value.slice Av ls.length cv).ownBlock) rfl rfl HPM.out (fun _ hk => ⟨trivial, hk⟩) (fun _ _ => trivial) HVW.out (Below.refl _ _) HSZ.out (by omega) ?_; intro v3 w3 hR3 hb3 _ _; obtain ⟨A3, c3, rfl⟩ := Kd.R_slice hR3; rw [List.length_append, List.length_singleton] at hR3; have HX3 := hid_ ((hb3.block bo hbb).trans (blk_below HV1.out HBW.out)); have u3 := boxAt HX3.out 0 rfl; have q3 := blk_frozen HX3.out 0; have HR3 := hid_ hR3; have HB3 := hid_ hb3; clear hR3 hb3)
      go_end0
      exact add_post hbb hbw HV1.out HBW.out HR3.out HB3.out
  · by_cases h2 : ls.length < cents.length
    · have HM := hid_ (minM_out (least := least) h1)
      have HCT := hid_ (centsM_in (cents := cents) h2)
      obtain ⟨gc, oc, rfl, _, hgc, ca⟩ := atInt HC.out (Below.refl _ _) ls.length h2
      obtain ⟨ca0, ca1⟩ := HN.out.cents cents[ls.length] (List.getElem_mem h2)
      generalize cents[ls.length] = ca' at ca ca0 ca1 HCT
      obtain ⟨wl, hwl⟩ : ∃ wl, w.alloc (.cells #[.string name, .int .i64 pre, .slice Ab labels.length cb, .int .i64 1, .int .i64 ca'] 41) = wl := ⟨_, rfl⟩
      have HBW : Hid (Below w.heap.size w wl) := by rw [← hwl]; exact below_alloc (Below.refl _ _) _
      have HSZ := hid_ (Nat.le_trans hbw HBW.out.size)
      have HVW := hid_ (Kd.R_below HV2.out HBW.out)
      have HPM : Hid (kLevel.M wl base (fun k => some k ≠ (Value.slice Av ls.length cv).ownBlock) (lvM least cents name pre labels ls.length) [.string name, .int .i64 pre, .slice Ab labels.length cb, .int .i64 1, .int .i64 ca']) := by
        have h9 := kLevel_mkM wl base (fun k => some k ≠ (Value.slice Av ls.length cv).ownBlock) (lvM least cents name pre labels ls.length) (Kd.R_below HLB.out HBW.out)
        unfold lvM at h9 ⊢
        rw [HM.out, HCT.out] at h9 ⊢
        exact h9
      have x1 := cellB HBW.out x0
      have y1 := cellB HBW.out y0
      have z1 := cellB HBW.out z0
      have HWX : Hid (wl.heap[w.heap.size]? = some (.cells #[.string name, .int .i64 pre, .slice Ab labels.length cb, .int .i64 1, .int .i64 ca'] 41 (0, 0))) := by rw [← hwl]; exact blk_new _ _
      have e0 := boxAt HWX.out 0 rfl
      have e1 := boxAt HWX.out 1 rfl
      have e2 := boxAt HWX.out 2 rfl
      have e3 := boxAt HWX.out 3 rfl
      have e4 := boxAt HWX.out 4 rfl
      have hob2 : bo < wl.heap.size := Nat.lt_of_lt_of_le hob HBW.out.size
      have q1 := blk_frozen (blk_below HV1.out HBW.out) 0
      go_enter Tryd.func40, Tryd.ntmps40
      go_wp2_with (at_builtin; refine Kd.R_append kLevel (w0 := wl) base rfl (.tmp 30) (.tmp 32) 25 41 (.agg #[.string ⟨#[]⟩, .int .i64 0, .slice none 0 0, .int .i64 0, .int .i64 0]) 64 rfl Tryd.underlying25 infoLevel rfl (by decide) (by decide) _ ls (lvM least cents name pre labels ls.length) _ (fun _ => True) (fun k => some k ≠ (Value.slice Av ls.length cv).ownBlock) rfl rfl HPM.out (fun _ hk => ⟨trivial, hk⟩) (fun _ _ => trivial) HVW.out (Below.refl _ _) HSZ.out (by omega) ?_; intro v3 w3 hR3 hb3 _ _; obtain ⟨A3, c3, rfl⟩ := Kd.R_slice hR3; rw [List.length_append, List.length_singleton] at hR3; have HX3 := hid_ ((hb3.block bo hbb).trans (blk_below HV1.out HBW.out)); have u3 := boxAt HX3.out 0 rfl; have q3 := blk_frozen HX3.out 0; have HR3 := hid_ hR3; have HB3 := hid_ hb3; clear hR3 hb3)
      go_end0
      exact add_post hbb hbw HV1.out HBW.out HR3.out HB3.out
    · have HM := hid_ (minM_out (least := least) h1)
      have HCT := hid_ (centsM_out (cents := cents) h2)
      obtain ⟨wl, hwl⟩ : ∃ wl, w.alloc (.cells #[.string name, .int .i64 pre, .slice Ab labels.length cb, .int .i64 1, .int .i64 0] 41) = wl := ⟨_, rfl⟩
      have HBW : Hid (Below w.heap.size w wl) := by rw [← hwl]; exact below_alloc (Below.refl _ _) _
      have HSZ := hid_ (Nat.le_trans hbw HBW.out.size)
      have HVW := hid_ (Kd.R_below HV2.out HBW.out)
      have HPM : Hid (kLevel.M wl base (fun k => some k ≠ (Value.slice Av ls.length cv).ownBlock) (lvM least cents name pre labels ls.length) [.string name, .int .i64 pre, .slice Ab labels.length cb, .int .i64 1, .int .i64 0]) := by
        have h9 := kLevel_mkM wl base (fun k => some k ≠ (Value.slice Av ls.length cv).ownBlock) (lvM least cents name pre labels ls.length) (Kd.R_below HLB.out HBW.out)
        unfold lvM at h9 ⊢
        rw [HM.out, HCT.out] at h9 ⊢
        exact h9
      have x1 := cellB HBW.out x0
      have y1 := cellB HBW.out y0
      have z1 := cellB HBW.out z0
      have HWX : Hid (wl.heap[w.heap.size]? = some (.cells #[.string name, .int .i64 pre, .slice Ab labels.length cb, .int .i64 1, .int .i64 0] 41 (0, 0))) := by rw [← hwl]; exact blk_new _ _
      have e0 := boxAt HWX.out 0 rfl
      have e1 := boxAt HWX.out 1 rfl
      have e2 := boxAt HWX.out 2 rfl
      have e3 := boxAt HWX.out 3 rfl
      have e4 := boxAt HWX.out 4 rfl
      have hob2 : bo < wl.heap.size := Nat.lt_of_lt_of_le hob HBW.out.size
      have q1 := blk_frozen (blk_below HV1.out HBW.out) 0
      go_enter Tryd.func40, Tryd.ntmps40
      go_wp2_with (at_builtin; refine Kd.R_append kLevel (w0 := wl) base rfl (.tmp 30) (.tmp 32) 25 41 (.agg #[.string ⟨#[]⟩, .int .i64 0, .slice none 0 0, .int .i64 0, .int .i64 0]) 64 rfl Tryd.underlying25 infoLevel rfl (by decide) (by decide) _ ls (lvM least cents name pre labels ls.length) _ (fun _ => True) (fun k => some k ≠ (Value.slice Av ls.length cv).ownBlock) rfl rfl HPM.out (fun _ hk => ⟨trivial, hk⟩) (fun _ _ => trivial) HVW.out (Below.refl _ _) HSZ.out (by omega) ?_; intro v3 w3 hR3 hb3 _ _; obtain ⟨A3, c3, rfl⟩ := Kd.R_slice hR3; rw [List.length_append, List.length_singleton] at hR3; have HX3 := hid_ ((hb3.block bo hbb).trans (blk_below HV1.out HBW.out)); have u3 := boxAt HX3.out 0 rfl; have q3 := blk_frozen HX3.out 0; have HR3 := hid_ hR3; have HB3 := hid_ hb3; clear hR3 hb3)
      go_end0
      exact add_post hbb hbw HV1.out HBW.out HR3.out HB3.out
end Go.Proofs.YtejmlkfdkodabaaDoor
