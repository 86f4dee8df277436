/- Texts of one proof put together. How the groups of a scheme lie: each piece has one group at each level. Plain Lean, with no program in sight. The tables of all groups, how many pieces each passes on, and the plan. Plain Lean, with no program in sight. The plan that groups give when each passes on its last pieces. Plain Lean, with no program in sight. -/
import Derived.Test.YtejmlkfdkodabaaDoorQxa
namespace LB

def gAt (gs : List Group) (i : Nat) : Group := gs.getD i ⟨-1, noText, -1, []⟩
theorem gAt_get {gs : List Group} {i : Nat} (h : i < gs.length) : gAt gs i = gs[i] := by
  unfold gAt
  rw [List.getD_eq_getElem?_getD, List.getElem?_eq_getElem h]
  rfl
theorem gAt_left {a b : List Group} {i : Nat} (h : i < a.length) : gAt (a ++ b) i = gAt a i := by
  unfold gAt
  rw [List.getD_eq_getElem?_getD, List.getElem?_append_left h, List.getD_eq_getElem?_getD]
theorem gAt_right {a b : List Group} {i : Nat} : gAt (a ++ b) (a.length + i) = gAt b i := by
  unfold gAt
  rw [List.getD_eq_getElem?_getD, List.getElem?_append_right (by omega), List.getD_eq_getElem?_getD, show a.length + i - a.length = i from by omega]
def ofN (k : Nat) : Int := (k : Int)
/-- m pieces, L levels; at level l the k-th piece has the group idx l k. -/
structure GSat (lv off : Nat) (gs : List Group) (m L : Nat) (idx : Nat → Nat → Nat) : Prop where
  lt : ∀ {l k}, l < L → k < m → idx l k < gs.length
  lev : ∀ {l k}, l < L → k < m → (gAt gs (idx l k)).level = ((lv + l : Nat) : Int)
  its : ∀ {i}, i < gs.length → ∃ l k, l < L ∧ k < m ∧ idx l k = i ∧ (gAt gs i).items = ((List.range m).filter (fun k => idx l k == i)).map ofN
  up : ∀ {l k}, l + 1 < L → k < m → (gAt gs (idx l k)).up = ((off + idx (l + 1) k : Nat) : Int)
  top : ∀ {l k}, l + 1 = L → k < m → (gAt gs (idx l k)).up = -1
  mono : ∀ {l l' k k'}, l < l' → l' < L → k < m → k' < m → idx l k < idx l' k'
def idxN : List (List ByteArray) → Nat → Nat → Nat
  | [], _, _ => 0
  | c :: _, 0, k => posN (c.getD k noText) (sortD c)
  | c :: r, l + 1, k => (sortD c).length + idxN r l k
theorem colItems_filter (l : List ByteArray) (nm : ByteArray) : ∀ k, k ≤ l.length → colItems (l.take k) nm = ((List.range k).filter (fun j => eqS (l.getD j noText) nm)).map ofN
  | 0, _ => by simp [colItems, itemsFrom]
  | k + 1, h => by
    rw [colItems_next (by omega), colItems_filter l nm k (by omega), List.range_succ, List.filter_append, List.map_append]
    congr 1
    simp only [List.filter_cons, List.filter_nil]
    rw [List.getD_eq_getElem?_getD, List.getElem?_eq_getElem (show k < l.length by omega), Option.getD_some]
    split <;> rfl
theorem colItems_pos {c : List ByteArray} {i : Nat} (h : i < (sortD c).length) : colItems c (sortD c)[i] = ((List.range c.length).filter (fun k => posN (c.getD k noText) (sortD c) == i)).map ofN := by
  have h1 := colItems_filter c (sortD c)[i] c.length (Nat.le_refl _)
  rw [List.take_length] at h1
  rw [h1]
  congr 1
  refine List.filter_congr fun k hk => ?_
  have hk := List.mem_range.1 hk
  rw [List.getD_eq_getElem?_getD, List.getElem?_eq_getElem hk, Option.getD_some]
  rw [Bool.eq_iff_iff, eqS_iff, beq_iff_eq]
  constructor
  · intro e; rw [e]; exact posN_at (asc_sortD c) h
  · intro e
    have := posN_get (posN_lt (mem_sortD.2 (List.getElem_mem hk)))
    rw [← this]
    congr 1
/-- Codes of one group have one group at the next level. -/
def Nests (m : Nat) : List (List ByteArray) → Prop
  | [] => True
  | [c] => c.length = m
  | c :: c' :: r => (c.length = m ∧ ∀ i (h : i < c.length) j (h' : j < c.length) (k : i < c'.length) (k' : j < c'.length), c[i] = c[j] → c'[i] = c'[j]) ∧ Nests m (c' :: r)
theorem nests_len {m : Nat} {c : List ByteArray} {r : List (List ByteArray)} (h : Nests m (c :: r)) : c.length = m := by
  cases r with
  | nil => exact h
  | cons c' r => exact h.1.1
theorem getD_lt {c : List ByteArray} {k : Nat} (h : k < c.length) : c.getD k noText = c[k] := by
  rw [List.getD_eq_getElem?_getD, List.getElem?_eq_getElem h, Option.getD_some]
theorem gAt_map {l : List ByteArray} {f : ByteArray → Group} {i : Nat} (h : i < l.length) : gAt (l.map f) i = f l[i] := by
  rw [gAt_get (by simpa using h)]
  simp
theorem gs_of : ∀ {C : List (List ByteArray)} {lv off m : Nat}, Nests m C → GSat lv off (groupsN lv off C) m C.length (idxN C)
  | [], lv, off, m, _ => ⟨fun h => absurd h (by simp), fun h => absurd h (by simp), fun h => absurd h (by simp [groupsN]), fun h => absurd h (by simp), fun h => absurd h (by simp), fun _ h => absurd h (by simp)⟩
  | [c], lv, off, m, hc => by
    have hc : c.length = m := hc
    subst hc
    rw [groupsN_one]
    have hp : ∀ {k}, k < c.length → posN (c.getD k noText) (sortD c) < (sortD c).length := fun hk => by
      rw [getD_lt hk]; exact posN_lt (mem_sortD.2 (List.getElem_mem hk))
    have h0 : ∀ {l}, l < [c].length → l = 0 := fun h => by simpa using h
    refine ⟨fun {l k} hl hk => ?_, fun {l k} hl hk => ?_, fun {i} hi => ?_, fun {l k} hl hk => ?_, fun {l k} hl hk => ?_, fun {l l' k k'} h1 h2 => ?_⟩
    · obtain rfl := h0 hl
      rw [List.length_map]; exact hp hk
    · obtain rfl := h0 hl
      show (gAt _ (posN _ _)).level = _
      rw [gAt_map (hp hk)]; rfl
    · rw [List.length_map] at hi
      obtain ⟨k, hk, e⟩ := List.getElem_of_mem (mem_sortD.1 (List.getElem_mem hi))
      refine ⟨0, k, by simp, hk, ?_, ?_⟩
      · show posN _ _ = i
        rw [getD_lt hk, e, posN_at (asc_sortD c) hi]
      · rw [gAt_map hi]
        exact colItems_pos hi
    · simp at hl
    · obtain rfl : l = 0 := by simpa using hl
      show (gAt _ (posN _ _)).up = _
      rw [gAt_map (hp hk)]; rfl
    · have := h0 h2; omega
  | c :: c' :: r, lv, off, m, hc => by
    obtain ⟨⟨h1, h2⟩, h3⟩ := hc
    have h4 := nests_len h3
    subst h1
    rw [groupsN_two]
    have ih := gs_of (lv := lv + 1) (off := off + (sortD c).length) h3
    rw [show (((lv + 1 : Nat) : Int)) = (lv : Int) + 1 from by omega] at ih
    have hp : ∀ {k}, k < c.length → posN (c.getD k noText) (sortD c) < (sortD c).length := fun hk => by
      rw [getD_lt hk]; exact posN_lt (mem_sortD.2 (List.getElem_mem hk))
    have hA : ((sortD c).map (mkF lv (off + (sortD c).length) c c')).length = (sortD c).length := List.length_map _
    have hR : ∀ i, gAt ((sortD c).map (mkF lv (off + (sortD c).length) c c') ++ groupsN ((lv : Int) + 1) (off + (sortD c).length) (c' :: r)) ((sortD c).length + i) = gAt (groupsN ((lv : Int) + 1) (off + (sortD c).length) (c' :: r)) i := fun i => by
      have := gAt_right (a := (sortD c).map (mkF lv (off + (sortD c).length) c c')) (b := groupsN ((lv : Int) + 1) (off + (sortD c).length) (c' :: r)) (i := i)
      rwa [hA] at this
    have hL : ∀ i (h : i < (sortD c).length), gAt ((sortD c).map (mkF lv (off + (sortD c).length) c c') ++ groupsN ((lv : Int) + 1) (off + (sortD c).length) (c' :: r)) i = mkF lv (off + (sortD c).length) c c' (sortD c)[i] := fun i h => by
      rw [gAt_left (by rw [hA]; exact h), gAt_map h]
    refine ⟨fun {l k} hl hk => ?_, fun {l k} hl hk => ?_, fun {i} hi => ?_, fun {l k} hl hk => ?_, fun {l k} hl hk => ?_, fun {l l' k k'} g1 g2 g3 g4 => ?_⟩
    · rw [List.length_append, hA]
      match l with
      | 0 => exact Nat.lt_of_lt_of_le (hp hk) (by omega)
      | l + 1 => exact Nat.add_lt_add_left (ih.lt (by simpa using hl) hk) _
    · match l with
      | 0 => 
        show (gAt _ (posN _ _)).level = _
        rw [hL _ (hp hk)]; rfl
      | l + 1 =>
        show (gAt _ ((sortD c).length + _)).level = _
        rw [hR, ih.lev (by simpa using hl) hk]
        omega
    · rw [List.length_append, hA] at hi
      by_cases hi' : i < (sortD c).length
      · obtain ⟨k, hk, e⟩ := List.getElem_of_mem (mem_sortD.1 (List.getElem_mem hi'))
        refine ⟨0, k, by simp, hk, ?_, ?_⟩
        · show posN _ _ = i
          rw [getD_lt hk, e, posN_at (asc_sortD c) hi']
        · rw [hL i hi']
          exact colItems_pos hi'
      · obtain ⟨j, rfl⟩ : ∃ j, i = (sortD c).length + j := ⟨i - (sortD c).length, by omega⟩
        obtain ⟨l, k, q1, q2, q3, q4⟩ := ih.its (i := j) (by omega)
        refine ⟨l + 1, k, by simpa using q1, q2, ?_, ?_⟩
        · show (sortD c).length + _ = _
          rw [q3]
        · rw [hR, q4]
          congr 1
          refine List.filter_congr fun k _ => ?_
          show _ = ((sortD c).length + idxN (c' :: r) l k == (sortD c).length + j)
          rw [Bool.eq_iff_iff, beq_iff_eq, beq_iff_eq]
          omega
    · match l with
      | 0 =>
        show (gAt _ (posN _ _)).up = _
        rw [hL _ (hp hk)]
        have e := posN_get (hp hk)
        show upS (off + (sortD c).length) c c' _ = _
        rw [e, getD_lt hk, upS_at h2 h4 hk]
        show _ = ((off + ((sortD c).length + posN (c'.getD k noText) (sortD c')) : Nat) : Int)
        rw [getD_lt (by omega)]
        omega
      | l + 1 =>
        show (gAt _ ((sortD c).length + _)).up = _
        rw [hR, ih.up (by simpa using hl) hk]
        show _ = ((off + ((sortD c).length + idxN (c' :: r) (l + 1) k) : Nat) : Int)
        omega
    · match l with
      | 0 => simp at hl
      | l + 1 =>
        show (gAt _ ((sortD c).length + _)).up = _
        rw [hR, ih.top (by simpa using hl) hk]
    · match l, l' with
      | 0, l' + 1 => exact Nat.lt_of_lt_of_le (hp g3) (Nat.le_add_right _ _)
      | l + 1, l' + 1 => exact Nat.add_lt_add_left (ih.mono (by omega) (by simpa using g2) g3 g4) _
      | _, 0 => omega
theorem nests_cols {ls : List Level} (h : rightS ls = true) {cs : List ByteArray} (hc : ∀ s ∈ cs, codeS s = true ∧ shortOf ls s = false) : ∀ (n : Nat), Nests cs.length ((cols ls cs).drop n) := by
  intro n
  generalize hd : ls.length - n = d
  induction d generalizing n with
  | zero =>
    rw [List.drop_of_length_le (by rw [cols_len]; omega)]
    trivial
  | succ d ih =>
    have hn : n < ls.length := by omega
    have hstep := ih (n + 1) (by omega)
    rw [List.drop_eq_getElem_cons (by rw [cols_len]; exact hn), cols_get hn]
    by_cases h1 : n + 1 < ls.length
    · rw [List.drop_eq_getElem_cons (by rw [cols_len]; exact h1), cols_get h1] at hstep ⊢
      refine ⟨⟨by simp, fun i hi j hj k k' e => ?_⟩, hstep⟩
      simp only [List.length_map] at hi hj
      simp only [List.getElem_map] at e ⊢
      obtain ⟨a1, a2⟩ := hc _ (List.getElem_mem hi)
      obtain ⟨b1, b2⟩ := hc _ (List.getElem_mem hj)
      exact cols_nest h h1 a1 b1 a2 b2 e
    · rw [List.drop_of_length_le (by rw [cols_len]; omega)]
      show (cs.map _).length = cs.length
      simp
end LB
namespace LB

def centsAt (ls : List Level) (lv : Int) : Int := match ls[lv.toNat]? with | some l => l.cents | none => 0
def subsS (gs : List Group) (i : Nat) : List Nat := (List.range gs.length).filter fun c => (gAt gs c).up == ofN i
def ownT (n : Nat) : List Int := List.replicate n (-1) ++ [0]
def comeI (gs : List Group) (bs : List (List Int)) (i : Nat) : List Int := if (gAt gs i).level = 0 then ownT (gAt gs i).items.length else comeS ((subsS gs i).map fun c => bs.getD c [])
def bestsS (ls : List Level) (gs : List Group) : Nat → List (List Int)
  | 0 => []
  | i + 1 => bestsS ls gs i ++ [bestS (comeI gs (bestsS ls gs i) i) (minAt ls (gAt gs i).level) (centsAt ls (gAt gs i).level)]
def bestT (ls : List Level) (gs : List Group) (c : Nat) : List Int := (bestsS ls gs gs.length).getD c []
theorem bestsS_len (ls : List Level) (gs : List Group) : ∀ i, (bestsS ls gs i).length = i
  | 0 => rfl
  | i + 1 => by rw [bestsS, List.length_append, bestsS_len ls gs i]; rfl
theorem bestsS_more (ls : List Level) (gs : List Group) {c i : Nat} (h : c < i) : ∀ {n : Nat}, i ≤ n → (bestsS ls gs n).getD c [] = (bestsS ls gs i).getD c [] := by
  intro n hn
  induction n with
  | zero => omega
  | succ n ih =>
    by_cases e : i = n + 1
    · subst e; rfl
    · rw [bestsS, List.getD_eq_getElem?_getD, List.getElem?_append_left (by rw [bestsS_len]; omega), ← List.getD_eq_getElem?_getD]
      exact ih (by omega)
theorem subs_mem {gs : List Group} {i c : Nat} : c ∈ subsS gs i ↔ c < gs.length ∧ (gAt gs c).up = (i : Int) := by
  unfold subsS ofN
  rw [List.mem_filter, List.mem_range, beq_iff_eq]
theorem subs_nodup (gs : List Group) (i : Nat) : (subsS gs i).Nodup := List.nodup_range.filter _
section
variable {gs : List Group} {m L : Nat} {idx : Nat → Nat → Nat}
theorem GSat.sub (G : GSat 0 0 gs m L idx) {c i : Nat} (h : c ∈ subsS gs i) : c < gs.length ∧ c < i ∧ i < gs.length ∧ ∃ l k, l + 1 < L ∧ k < m ∧ idx l k = c ∧ idx (l + 1) k = i := by
  obtain ⟨h1, h2⟩ := subs_mem.1 h
  obtain ⟨l, k, q1, q2, q3, _⟩ := G.its h1
  subst q3
  by_cases e : l + 1 < L
  · have h3 := G.up e q2
    rw [h2] at h3
    have h4 : idx (l + 1) k = i := by omega
    subst h4
    exact ⟨h1, G.mono (by omega) e q2 q2, G.lt e q2, l, k, e, q2, rfl, rfl⟩
  · have h3 := G.top (l := l) (k := k) (by omega) q2
    omega
theorem GSat.up_cases (G : GSat 0 0 gs m L idx) {c : Nat} (h : c < gs.length) : (gAt gs c).up = -1 ∨ ∃ i, i < gs.length ∧ c < i ∧ (gAt gs c).up = ((i : Nat) : Int) := by
  obtain ⟨l, k, q1, q2, q3, _⟩ := G.its h
  subst q3
  by_cases e : l + 1 < L
  · exact .inr ⟨_, G.lt e q2, G.mono (by omega) e q2 q2, by rw [G.up e q2]; omega⟩
  · exact .inl (G.top (by omega) q2)
theorem sumOf_add (f g : Nat → Nat) : ∀ l : List Nat, sumOf (fun c => f c + g c) l = sumOf f l + sumOf g l
  | [] => rfl
  | c :: r => by rw [sumOf, sumOf_add f g r, sumOf, sumOf]; omega
theorem sumOf_zero : ∀ {l : List Nat} {f : Nat → Nat}, (∀ c ∈ l, f c = 0) → sumOf f l = 0
  | [], _, _ => rfl
  | c :: r, f, h => by rw [sumOf, h c List.mem_cons_self, sumOf_zero fun d hd => h d (List.mem_cons_of_mem _ hd)]
theorem sumOf_one {x : Nat} {b : Bool} : ∀ {l : List Nat}, l.Nodup → sumOf (fun c => if (x == c && b) = true then 1 else 0) l = if x ∈ l ∧ b = true then 1 else 0
  | [], _ => by simp [sumOf]
  | c :: r, h => by
    obtain ⟨h1, h2⟩ := List.nodup_cons.1 h
    rw [sumOf, sumOf_one h2]
    by_cases e : x = c
    · subst e
      cases b <;> simp [h1]
    · have : (x == c) = false := by simpa using e
      rw [this]
      simp [e]
/-- What the subgroups of a group have, the group has. -/
theorem GSat.count (G : GSat 0 0 gs m L idx) {l i : Nat} (hl : l + 1 < L) (hi : (gAt gs i).level = ((l + 1 : Nat) : Int)) (P : Nat → Bool) :
    sumOf (fun c => (List.range m).countP fun k => idx l k == c && P k) (subsS gs i) = (List.range m).countP fun k => idx (l + 1) k == i && P k := by
  have key : ∀ n, n ≤ m → sumOf (fun c => (List.range n).countP fun k => idx l k == c && P k) (subsS gs i) = (List.range n).countP fun k => idx (l + 1) k == i && P k := by
    intro n hn
    induction n with
    | zero => exact sumOf_zero fun _ _ => rfl
    | succ n ih =>
      have e1 : ∀ c, (List.range (n + 1)).countP (fun k => idx l k == c && P k) = (List.range n).countP (fun k => idx l k == c && P k) + (if (idx l n == c && P n) = true then 1 else 0) := fun c => by
        rw [List.range_succ, List.countP_append, List.countP_singleton]
      rw [sumOf_congr (fun c _ => e1 c), sumOf_add, ih (by omega), sumOf_one (subs_nodup gs i), List.range_succ, List.countP_append, List.countP_singleton]
      congr 1
      have h1 : idx l n ∈ subsS gs i ↔ idx (l + 1) n = i := by
        rw [subs_mem, G.up hl (show n < m by omega)]
        constructor
        · rintro ⟨_, h⟩; omega
        · intro h; exact ⟨G.lt (by omega) (by omega), by omega⟩
      simp only [h1, Bool.and_eq_true, beq_iff_eq]
  exact key m (Nat.le_refl _)
theorem GSat.size (G : GSat 0 0 gs m L idx) {i l : Nat} (h : i < gs.length) (hl : (gAt gs i).level = (l : Int)) : (gAt gs i).items.length = (List.range m).countP fun k => idx l k == i := by
  obtain ⟨l', k, q1, q2, q3, q4⟩ := G.its h
  have : l' = l := by
    have := G.lev q1 q2
    rw [q3, hl] at this
    omega
  subst this
  rw [q4, List.length_map, List.countP_eq_length_filter]
theorem GSat.size_le (G : GSat 0 0 gs m L idx) {i : Nat} (h : i < gs.length) : (gAt gs i).items.length ≤ m := by
  obtain ⟨l', k, q1, q2, q3, q4⟩ := G.its h
  rw [q4, List.length_map]
  exact Nat.le_trans (List.length_filter_le _ _) (by simp)
theorem GSat.level (G : GSat 0 0 gs m L idx) {i : Nat} (h : i < gs.length) : ∃ l, l < L ∧ (gAt gs i).level = ((l : Nat) : Int) := by
  obtain ⟨l', k, q1, q2, q3, q4⟩ := G.its h
  exact ⟨l', q1, by rw [← q3, G.lev q1 q2]; omega⟩
theorem GSat.subs_size (G : GSat 0 0 gs m L idx) {i l : Nat} (h : i < gs.length) (hl : (gAt gs i).level = ((l + 1 : Nat) : Int)) (hL : l + 1 < L) : sumOf (fun c => (gAt gs c).items.length) (subsS gs i) = (gAt gs i).items.length := by
  have h1 := G.count hL hl (fun _ => true)
  simp only [Bool.and_true] at h1
  rw [G.size h hl, ← h1]
  refine sumOf_congr fun c hc => ?_
  obtain ⟨h2, _, _, l', k, q1, q2, q3, q4⟩ := G.sub hc
  refine G.size h2 ?_
  rw [← q3, G.lev (by omega) q2]
  have := G.lev q1 q2
  rw [q4, hl] at this
  omega
theorem GSat.no_subs (G : GSat 0 0 gs m L idx) {i : Nat} (hl : (gAt gs i).level = 0) : subsS gs i = [] := by
  refine List.eq_nil_iff_forall_not_mem.2 fun c hc => ?_
  obtain ⟨_, _, _, l, k, q1, q2, _, q4⟩ := G.sub hc
  have := G.lev q1 q2
  rw [q4, hl] at this
  omega
end

/-! ### The tables are in order -/
/-- A table of n pieces: no saving is greater than K levels of n pieces with C for each; all can be passed on. -/
structure TabF (K n : Nat) (C : Int) (t : List Int) : Prop where
  ok : Okt t
  len : t.length = n + 1
  most : Most (((K * n : Nat) : Int) * C) t
  last : tat t n ≠ -1
theorem tabF_unit (K : Nat) (C : Int) : TabF K 0 C [0] := ⟨fun x hx => by simp at hx; omega, rfl, fun x hx => by simp at hx; simp [hx], by simp [tat]⟩
theorem tabF_own (K n : Nat) {C : Int} (hC : 0 ≤ C) : TabF K n C (ownT n) := by
  have hm : ∀ x ∈ ownT n, x = -1 ∨ x = 0 := fun x hx => by
    unfold ownT at hx
    rcases List.mem_append.1 hx with h | h
    · exact .inl (List.eq_of_mem_replicate h)
    · exact .inr (by simpa using h)
  have h0 : 0 ≤ ((K * n : Nat) : Int) * C := Int.mul_nonneg (by omega) hC
  refine ⟨fun x hx => ?_, by simp [ownT], fun x hx => ?_, ?_⟩
  · rcases hm x hx with h | h <;> omega
  · rcases hm x hx with h | h <;> omega
  · rw [tat_get (by simp [ownT])]
    simp [ownT]
theorem own_at {n k : Nat} (h : tat (ownT n) k ≠ -1) : k = n := by
  have h1 := tat_lt h
  rw [tat_get h1] at h
  unfold ownT at h h1
  rw [List.length_append, List.length_replicate, List.length_singleton] at h1
  by_cases e : k = n
  · exact e
  · rw [List.getElem_append_left (by rw [List.length_replicate]; omega)] at h
    exact absurd (List.getElem_replicate _) h
theorem tabF_merge {K n n' : Nat} {C : Int} {a b : List Int} (hC : 0 ≤ C) (ha : TabF K n C a) (hb : TabF K n' C b) : TabF K (n + n') C (mergeS a b) := by
  refine ⟨mergeS_ok ha.ok hb.ok, by rw [mergeS_len, ha.len, hb.len]; omega, ?_, ?_⟩
  · have h := mergeS_most ha.most hb.most (Int.mul_nonneg (by omega) hC) (Int.mul_nonneg (by omega) hC)
    have e : ((K * (n + n') : Nat) : Int) * C = ((K * n : Nat) : Int) * C + ((K * n' : Nat) : Int) * C := by
      rw [← Int.add_mul, ← Int.natCast_add, ← Nat.mul_add]
    rw [e]; exact h
  · have h1 := mergeS_ge ha.last hb.last
    have h2 := ha.ok.nn ha.last
    have h3 := hb.ok.nn hb.last
    omega
theorem tabF_come {K : Nat} {C : Int} (hC : 0 ≤ C) {bt : Nat → List Int} {n : Nat → Nat} : ∀ {l : List Nat}, (∀ c ∈ l, TabF K (n c) C (bt c)) → TabF K (sumOf n l) C (comeS (l.map bt))
  | [], _ => tabF_unit K C
  | c :: r, h => by
    rw [List.map_cons, comeS_cons, sumOf]
    exact tabF_merge hC (h c List.mem_cons_self) (tabF_come hC fun d hd => h d (List.mem_cons_of_mem _ hd))
theorem tabF_best {K n : Nat} {C : Int} {t : List Int} (h : TabF K n C t) {mn cents : Int} (h0 : 0 ≤ cents) (h1 : cents ≤ C) : TabF (K + 1) n C (bestS t mn cents) := by
  have hC : 0 ≤ C := by omega
  refine ⟨bestS_ok h.ok _ _, by rw [bestS_len, h.len], ?_, ?_⟩
  · have h2 := bestS_most h.most h.ok (Int.mul_nonneg (by omega) hC) (mn := mn) h0 h1
    rw [h.len, Nat.add_sub_cancel] at h2
    have e : (((K + 1) * n : Nat) : Int) * C = ((K * n : Nat) : Int) * C + (n : Int) * C := by
      rw [← Int.add_mul, ← Int.natCast_add, Nat.succ_mul]
    rw [e]; exact h2
  · have h2 := bestS_pass (come := t) (mn := mn) (cents := cents) n
    have h3 := h.ok.nn h.last
    omega
/-- What is asked of the levels. -/
structure LvOk (ls : List Level) : Prop where
  cents : ∀ lv, 0 ≤ centsAt ls lv ∧ centsAt ls lv ≤ 1000000
  min : ∀ lv, 0 ≤ minAt ls lv ∧ minAt ls lv ≤ 2000
  last : ∀ l, l + 1 = ls.length → minAt ls ((l : Nat) : Int) = 0
theorem comeI_more {ls : List Level} {gs : List Group} {m L : Nat} {idx : Nat → Nat → Nat} (G : GSat 0 0 gs m L idx) {i : Nat} (h : i < gs.length) : comeI gs (bestsS ls gs i) i = comeI gs (bestsS ls gs gs.length) i := by
  unfold comeI
  split
  · rfl
  · congr 1
    refine List.map_congr_left fun c hc => ?_
    obtain ⟨_, h2, _⟩ := G.sub hc
    exact (bestsS_more ls gs h2 (by omega)).symm
theorem bestT_eq {ls : List Level} {gs : List Group} {m L : Nat} {idx : Nat → Nat → Nat} (G : GSat 0 0 gs m L idx) {i : Nat} (h : i < gs.length) : bestT ls gs i = bestS (comeI gs (bestsS ls gs gs.length) i) (minAt ls (gAt gs i).level) (centsAt ls (gAt gs i).level) := by
  unfold bestT
  rw [bestsS_more ls gs (Nat.lt_succ_self i) h, bestsS, List.getD_eq_getElem?_getD, List.getElem?_append_right (by rw [bestsS_len]; exact Nat.le_refl _), bestsS_len, Nat.sub_self, comeI_more G h]
  rfl
/-- The table of what comes to a group. -/
def comeT (ls : List Level) (gs : List Group) (i : Nat) : List Int := comeI gs (bestsS ls gs gs.length) i
theorem comeT_up {ls : List Level} {gs : List Group} {i : Nat} (h : (gAt gs i).level ≠ 0) : comeT ls gs i = comeS ((subsS gs i).map (bestT ls gs)) := by
  unfold comeT comeI
  rw [if_neg h]
  rfl
theorem comeT_low {ls : List Level} {gs : List Group} {i : Nat} (h : (gAt gs i).level = 0) : comeT ls gs i = ownT (gAt gs i).items.length := by
  unfold comeT comeI
  rw [if_pos h]
theorem tables_ok {ls : List Level} {gs : List Group} {m L : Nat} {idx : Nat → Nat → Nat} (G : GSat 0 0 gs m L idx) (hl : LvOk ls) : ∀ {i l : Nat}, i < gs.length → (gAt gs i).level = ((l : Nat) : Int) →
    TabF l (gAt gs i).items.length 1000000 (comeT ls gs i) ∧ TabF (l + 1) (gAt gs i).items.length 1000000 (bestT ls gs i) := by
  intro i
  induction i using Nat.strongRecOn with
  | ind i ih =>
    intro l hi hlv
    have h1 : TabF l (gAt gs i).items.length 1000000 (comeT ls gs i) := by
      match l with
      | 0 =>
        rw [comeT_low hlv]
        exact tabF_own _ _ (by decide)
      | l + 1 =>
        rw [comeT_up (by rw [hlv]; omega)]
        obtain ⟨l', hl', e⟩ := G.level hi
        rw [hlv] at e
        rw [← G.subs_size hi hlv (by omega)]
        refine tabF_come (by decide) fun c hc => ?_
        obtain ⟨a1, a2, _, l2, k, q1, q2, q3, q4⟩ := G.sub hc
        have e2 : (gAt gs c).level = ((l : Nat) : Int) := by
          rw [← q3, G.lev (by omega) q2]
          have := G.lev q1 q2
          rw [q4, hlv] at this
          omega
        exact (ih c a2 a1 e2).2
    refine ⟨h1, ?_⟩
    rw [bestT_eq G hi]
    exact tabF_best h1 (hl.cents _).1 (hl.cents _).2

/-! ### How many pieces each group passes on -/
def shareI (ls : List Level) (gs : List Group) (P : Nat → Nat) (i : Nat) : Nat → Nat :=
  shareF (P i) (minAt ls (gAt gs i).level) (centsAt ls (gAt gs i).level) (tat (bestT ls gs i) (P i)) (bestT ls gs) (subsS gs i) 0 0 P
def passF (ls : List Level) (gs : List Group) : Nat → Nat → Nat
  | 0 => fun _ => 0
  | j + 1 => shareI ls gs (passF ls gs j) (gs.length - (j + 1))
structure PassI (ls : List Level) (gs : List Group) (i0 : Nat) (P : Nat → Nat) : Prop where
  root : ∀ x, x < gs.length → (gAt gs x).up = -1 → P x = 0
  some : ∀ x, x < gs.length → ((gAt gs x).up = -1 ∨ ((i0 : Nat) : Int) ≤ (gAt gs x).up) → tat (bestT ls gs x) (P x) ≠ -1
  none : ∀ x, x < gs.length → (gAt gs x).up < ((i0 : Nat) : Int) → P x = 0
  save : ∀ i, i0 ≤ i → i < gs.length → (gAt gs i).level ≠ 0 → saveG (P i) (minAt ls (gAt gs i).level) (centsAt ls (gAt gs i).level) ((sumOf P (subsS gs i) : Nat) : Int) ≠ -1
section
variable {ls : List Level} {gs : List Group} {m : Nat} {idx : Nat → Nat → Nat}
theorem PassI.start (G : GSat 0 0 gs m ls.length idx) (hl : LvOk ls) : PassI ls gs gs.length (passF ls gs 0) := by
  refine ⟨fun _ _ _ => rfl, fun x hx h => ?_, fun _ _ _ => rfl, fun i h h' => by omega⟩
  have hup : (gAt gs x).up = -1 := by
    rcases G.up_cases hx with e | ⟨i, h1, _, h3⟩
    · exact e
    · rcases h with h | h <;> omega
  obtain ⟨l, k, q1, q2, q3, _⟩ := G.its hx
  have hlast : l + 1 = ls.length := by
    by_cases e : l + 1 < ls.length
    · have := G.up e q2
      rw [q3, hup] at this
      omega
    · omega
  have hlev : (gAt gs x).level = ((l : Nat) : Int) := by rw [← q3, G.lev q1 q2]; omega
  obtain ⟨h1, h2⟩ := tables_ok G hl hx hlev
  show tat (bestT ls gs x) 0 ≠ -1
  have hB := bestT_eq (ls := ls) G hx
  rw [hlev, hl.last l hlast] at hB
  have h3 := h1.ok.nn h1.last
  have hc := hl.cents ((l : Nat) : Int)
  unfold comeT at h1 h3
  by_cases e : (gAt gs x).items.length = 0
  · rw [e] at h3
    have h4 := bestS_pass (come := comeI gs (bestsS ls gs gs.length) x) (mn := 0) (cents := centsAt ls ((l : Nat) : Int)) 0
    rw [hB]
    omega
  · have h4 := bestS_take (mn := 0) h1.ok hc.1 (p := 0) h1.last (by unfold needN; omega)
    have h5 := Int.mul_nonneg (show 0 ≤ (((gAt gs x).items.length : Nat) : Int) - ((0 : Nat) : Int) by omega) hc.1
    rw [hB]
    omega
theorem PassI.can (G : GSat 0 0 gs m ls.length idx) (hl : LvOk ls) {i : Nat} {P : Nat → Nat} (h : PassI ls gs (i + 1) P) (hi : i < gs.length) (hlv : (gAt gs i).level ≠ 0) :
    Can (P i) (minAt ls (gAt gs i).level) (centsAt ls (gAt gs i).level) (tat (bestT ls gs i) (P i)) ((subsS gs i).map (bestT ls gs)) 0 0 := by
  have h1 : tat (bestT ls gs i) (P i) ≠ -1 := h.some i hi (by
    rcases G.up_cases hi with e | ⟨j, _, h2, h3⟩
    · exact .inl e
    · exact .inr (by omega))
  obtain ⟨l, hlL, e⟩ := G.level hi
  obtain ⟨t1, _⟩ := tables_ok G hl hi e
  have hB := bestT_eq (ls := ls) G hi
  have hc := comeT_up (ls := ls) hlv
  unfold comeT at hc t1
  rw [hc] at hB t1
  rw [hB] at h1 ⊢
  exact can_start t1.ok (hl.cents _).1 h1
theorem PassI.step (G : GSat 0 0 gs m ls.length idx) (hl : LvOk ls) {i : Nat} {P : Nat → Nat} (h : PassI ls gs (i + 1) P) (hi : i < gs.length) : PassI ls gs i (shareI ls gs P i) := by
  by_cases hlv : (gAt gs i).level = 0
  · have hs : shareI ls gs P i = P := by unfold shareI; rw [G.no_subs hlv]; rfl
    rw [hs]
    refine ⟨h.root, fun x hx hu => h.some x hx ?_, fun x hx hu => h.none x hx (by omega), fun j hj hjl hne => ?_⟩
    · rcases hu with hu | hu
      · exact .inl hu
      · by_cases e : (gAt gs x).up = ((i : Nat) : Int)
        · have := subs_mem.2 ⟨hx, e⟩
          rw [G.no_subs hlv] at this
          cases this
        · exact .inr (by omega)
    · by_cases e : j = i
      · subst e; exact absurd hlv hne
      · exact h.save j (by omega) hjl hne
  · obtain ⟨s1, s2⟩ := shareF_spec (bt := bestT ls gs) (P := P) (subs_nodup gs i) (h.can G hl hi hlv)
    have hoth : ∀ x, x ∉ subsS gs i → shareI ls gs P i x = P x := fun x hx => shareF_other hx
    have hnot : ∀ x, x < gs.length → (gAt gs x).up ≠ ((i : Nat) : Int) → x ∉ subsS gs i := fun x hx hu hm => hu (subs_mem.1 hm).2
    have hself : shareI ls gs P i i = P i := hoth i fun hm => absurd (G.sub hm).2.1 (Nat.lt_irrefl _)
    refine ⟨fun x hx hu => ?_, fun x hx hu => ?_, fun x hx hu => ?_, fun j hj hjl hne => ?_⟩
    · rw [hoth x (hnot x hx (by omega))]; exact h.root x hx hu
    · by_cases e : (gAt gs x).up = ((i : Nat) : Int)
      · exact s1 x (subs_mem.2 ⟨hx, e⟩)
      · rw [hoth x (hnot x hx e)]
        exact h.some x hx (by omega)
    · rw [hoth x (hnot x hx (by omega))]; exact h.none x hx (by omega)
    · by_cases e : j = i
      · subst e
        rw [hself]
        rw [Nat.zero_add] at s2
        exact s2
      · have h1 : j ∉ subsS gs i := fun hm => by have := (G.sub hm).2.1; omega
        rw [hoth j h1, sumOf_congr (fun c hc => hoth c (hnot c (subs_mem.1 hc).1 (by have := (subs_mem.1 hc).2; omega)))]
        exact h.save j (by omega) hjl hne
theorem passI_all (G : GSat 0 0 gs m ls.length idx) (hl : LvOk ls) : ∀ j, j ≤ gs.length → PassI ls gs (gs.length - j) (passF ls gs j)
  | 0, _ => PassI.start G hl
  | j + 1, hj => by
    have h := passI_all G hl j (by omega)
    rw [show gs.length - j = gs.length - (j + 1) + 1 from by omega] at h
    exact h.step G hl (by omega)
end
/-- How many pieces come to a group. -/
def comeN (gs : List Group) (P : Nat → Nat) (i : Nat) : Nat := if (gAt gs i).level = 0 then (gAt gs i).items.length else sumOf P (subsS gs i)
theorem pass_saves {ls : List Level} {gs : List Group} {m : Nat} {idx : Nat → Nat → Nat} (G : GSat 0 0 gs m ls.length idx) (hl : LvOk ls) {i : Nat} (hi : i < gs.length) :
    saveG (passF ls gs gs.length i) (minAt ls (gAt gs i).level) (centsAt ls (gAt gs i).level) ((comeN gs (passF ls gs gs.length) i : Nat) : Int) ≠ -1 := by
  have h := passI_all G hl gs.length (Nat.le_refl _)
  rw [Nat.sub_self] at h
  unfold comeN
  split
  · rename_i hlv
    have h1 := h.some i hi (by
      rcases G.up_cases hi with e | ⟨j, _, h2, h3⟩
      · exact .inl e
      · exact .inr (by omega))
    obtain ⟨l, hlL, e⟩ := G.level hi
    obtain ⟨t1, _⟩ := tables_ok G hl hi e
    rw [bestT_eq G hi] at h1
    obtain ⟨n, n1, n2, n3⟩ := bestS_from t1.ok (hl.cents _).1 h1
    have hc := comeT_low (ls := ls) hlv
    have n1 : tat (comeT ls gs i) n ≠ -1 := n1
    rw [hc] at n1
    obtain rfl := own_at n1
    rw [saveG_ne (hl.cents _).1]
    unfold needN at n2
    omega
  · rename_i hlv
    exact h.save i (by omega) hi hlv
theorem pass_le {ls : List Level} {gs : List Group} {m : Nat} {idx : Nat → Nat → Nat} (G : GSat 0 0 gs m ls.length idx) (hl : LvOk ls) {i : Nat} (hi : i < gs.length) : passF ls gs gs.length i ≤ comeN gs (passF ls gs gs.length) i := by
  have h := (saveG_ne (hl.cents _).1).1 (pass_saves G hl hi)
  omega
end LB
namespace LB

def comeL (gs : List Group) (pl : Nat → Int) (i : Nat) : List Int := (gAt gs i).items.filter fun z => pl z.toNat == (gAt gs i).level
def giveF (pl : Nat → Int) (gone : List Int) : Nat → Int := fun k => if ofN k ∈ gone then pl k + 1 else pl k
def goneL (gs : List Group) (P : Nat → Nat) (pl : Nat → Int) (i : Nat) : List Int := (comeL gs pl i).drop ((comeL gs pl i).length - P i)
def planF (gs : List Group) (P : Nat → Nat) : Nat → Nat → Int
  | 0 => fun _ => 0
  | i + 1 => giveF (planF gs P i) (goneL gs P (planF gs P i) i)
def planG (ls : List Level) (gs : List Group) (m : Nat) : List Int := (List.range m).map (planF gs (passF ls gs gs.length) gs.length)

theorem filter_sub {S T : List Nat} (h : S.Sublist T) (hn : T.Nodup) : T.filter (fun x => decide (x ∈ S)) = S := by
  induction h with
  | slnil => rfl
  | @cons S T a h ih =>
    obtain ⟨h1, h2⟩ := List.nodup_cons.1 hn
    rw [List.filter_cons, if_neg (by simpa using fun hm => h1 (h.subset hm))]
    exact ih h2
  | @cons_cons S T a h ih =>
    obtain ⟨h1, h2⟩ := List.nodup_cons.1 hn
    rw [List.filter_cons, if_pos (by simp)]
    congr 1
    rw [← ih h2]
    refine List.filter_congr fun x hx => ?_
    have : x ≠ a := fun e => h1 (by rw [← e]; exact hx)
    rw [ih h2]
    simp [this]
theorem ofN_mem {l : List Nat} {k : Nat} : ofN k ∈ l.map ofN ↔ k ∈ l := by
  rw [List.mem_map]
  constructor
  · rintro ⟨j, h, e⟩
    have : j = k := by unfold ofN at e; omega
    rwa [← this]
  · intro h; exact ⟨k, h, rfl⟩
structure PlanI (gs : List Group) (m L : Nat) (idx : Nat → Nat → Nat) (P : Nat → Nat) (i0 : Nat) (pl : Nat → Int) : Prop where
  low : ∀ l k, l < L → k < m → i0 ≤ idx l k → pl k ≤ l
  cnt : ∀ l k, l < L → k < m → idx l k < i0 → (l + 1 = L ∨ i0 ≤ idx (l + 1) k) → ((List.range m).countP fun j => idx l j == idx l k && pl j == ((l + 1 : Nat) : Int)) = P (idx l k)
  zero : ∀ k, 0 < L → k < m → i0 ≤ idx 0 k → pl k = 0
  nn : ∀ k, 0 ≤ pl k ∧ pl k ≤ (i0 : Int)
section
variable {gs : List Group} {m L : Nat} {idx : Nat → Nat → Nat} {P : Nat → Nat}
theorem GSat.same (G : GSat 0 0 gs m L idx) {l l' k k' : Nat} (h1 : l < L) (h2 : l' < L) (h3 : k < m) (h4 : k' < m) (e : idx l k = idx l' k') : l = l' := by
  have a := G.lev h1 h3
  have b := G.lev h2 h4
  rw [e] at a
  omega
theorem comeL_eq (G : GSat 0 0 gs m L idx) {l k0 : Nat} (hl : l < L) (hk : k0 < m) (pl : Nat → Int) : comeL gs pl (idx l k0) = ((List.range m).filter fun k => idx l k == idx l k0 && pl k == (l : Int)).map ofN := by
  obtain ⟨l', k, q1, q2, q3, q4⟩ := G.its (G.lt hl hk)
  obtain rfl := G.same q1 hl q2 hk q3
  have hlev := G.lev hl hk
  unfold comeL
  rw [q4, hlev, List.filter_map, List.filter_filter]
  congr 1
  refine List.filter_congr fun j _ => ?_
  simp [ofN, Bool.and_comm]
theorem PlanI.come (G : GSat 0 0 gs m L idx) {l k0 : Nat} (hl : l < L) (hk : k0 < m) {pl : Nat → Int} (h : PlanI gs m L idx P (idx l k0) pl) : (comeL gs pl (idx l k0)).length = comeN gs P (idx l k0) := by
  rw [comeL_eq G hl hk, List.length_map, ← List.countP_eq_length_filter]
  have hi := G.lt hl hk
  have hlev := G.lev hl hk
  unfold comeN
  match l with
  | 0 =>
    rw [if_pos (by rw [hlev]; rfl), G.size hi (l := 0) (by rw [hlev])]
    refine List.countP_congr fun k hkm => ?_
    have hkm := List.mem_range.1 hkm
    simp only [Bool.and_eq_true, beq_iff_eq]
    constructor
    · intro h; exact h.1
    · intro e; exact ⟨e, by rw [h.zero k hl hkm (by omega)]; rfl⟩
  | l + 1 =>
    have hlev' : (gAt gs (idx (l + 1) k0)).level = ((l + 1 : Nat) : Int) := by rw [hlev]; omega
    rw [if_neg (by rw [hlev']; omega), ← G.count hl hlev']
    refine sumOf_congr fun c hc => ?_
    obtain ⟨_, a2, _, l2, k2, q1, q2, q3, q4⟩ := G.sub hc
    have : l2 = l := by
      have := G.same q1 hl q2 hk q4
      omega
    subst this
    have h1 := h.cnt l2 k2 (by omega) q2 (by omega) (.inr (by omega))
    rw [q3] at h1
    exact h1
theorem PlanI.start : PlanI gs m L idx P 0 (planF gs P 0) :=
  ⟨fun l _ _ _ _ => Int.natCast_nonneg l, fun _ _ _ _ h => absurd h (by omega), fun _ _ _ _ => rfl, fun _ => ⟨Int.le_refl _, Int.le_refl _⟩⟩
theorem PlanI.step (G : GSat 0 0 gs m L idx) {l k0 : Nat} (hl : l < L) (hk : k0 < m) {pl : Nat → Int} (h : PlanI gs m L idx P (idx l k0) pl) (hp : P (idx l k0) ≤ comeN gs P (idx l k0)) : PlanI gs m L idx P (idx l k0 + 1) (giveF pl (goneL gs P pl (idx l k0))) := by
  have hcome := h.come G hl hk
  generalize hF : ((List.range m).filter fun k => idx l k == idx l k0 && pl k == (l : Int)) = F
  have hce : comeL gs pl (idx l k0) = F.map ofN := by rw [comeL_eq G hl hk, hF]
  have hlen : F.length = comeN gs P (idx l k0) := by rw [← hcome, hce, List.length_map]
  have hg : goneL gs P pl (idx l k0) = (F.drop (F.length - P (idx l k0))).map ofN := by
    unfold goneL
    rw [hce, List.length_map, List.map_drop]
  generalize hD : F.drop (F.length - P (idx l k0)) = D at hg
  have hDs : D.Sublist (List.range m) := by
    rw [← hD, ← hF]
    exact (List.drop_sublist _ _).trans List.filter_sublist
  have hDF : ∀ k, k ∈ D → k < m ∧ idx l k = idx l k0 ∧ pl k = l := fun k hkD => by
    have h1 : k ∈ F := by rw [← hD] at hkD; exact List.mem_of_mem_drop hkD
    rw [← hF, List.mem_filter, List.mem_range] at h1
    simpa using h1
  have hDl : D.length = P (idx l k0) := by rw [← hD, List.length_drop]; omega
  have hgive : ∀ k, giveF pl (goneL gs P pl (idx l k0)) k = if k ∈ D then pl k + 1 else pl k := fun k => by
    unfold giveF
    rw [hg]
    simp only [ofN_mem]
  clear hg hce hlen hcome
  refine ⟨fun l2 k2 a1 a2 a3 => ?_, fun l2 k2 a1 a2 a3 a4 => ?_, fun k2 a1 a2 a3 => ?_, fun k => ?_⟩
  · rw [hgive]
    split
    · rename_i hm
      obtain ⟨_, b2, b3⟩ := hDF _ hm
      have : l < l2 := by
        rcases Nat.lt_trichotomy l l2 with e | e | e
        · exact e
        · subst e; omega
        · have := G.mono e hl a2 a2; omega
      omega
    · exact h.low l2 k2 a1 a2 (by omega)
  · by_cases e : idx l2 k2 = idx l k0
    · obtain rfl := G.same a1 hl a2 hk e
      rw [e, ← hDl, ← filter_sub hDs List.nodup_range, ← List.countP_eq_length_filter]
      refine List.countP_congr fun k hkm => ?_
      have hkm := List.mem_range.1 hkm
      simp only [Bool.and_eq_true, beq_iff_eq, decide_eq_true_eq]
      rw [hgive]
      constructor
      · rintro ⟨c1, c2⟩
        split at c2
        · assumption
        · have := h.low _ k a1 hkm (by omega)
          omega
      · intro hm
        obtain ⟨_, b2, b3⟩ := hDF _ hm
        refine ⟨b2, ?_⟩
        rw [if_pos hm]
        omega
    · have a5 : idx l2 k2 < idx l k0 := by omega
      rw [← h.cnt l2 k2 a1 a2 a5 (by omega)]
      refine List.countP_congr fun k hkm => ?_
      have hkm := List.mem_range.1 hkm
      simp only [Bool.and_eq_true, beq_iff_eq]
      rw [hgive]
      have : idx l2 k = idx l2 k2 → k ∉ D := fun c1 hm => by
        obtain ⟨_, b2, b3⟩ := hDF _ hm
        have hlt : l2 < l := by
          rcases Nat.lt_trichotomy l2 l with e' | e' | e'
          · exact e'
          · subst e'; omega
          · have := G.mono e' a1 hkm hkm; omega
        have a6 : idx l k0 + 1 ≤ idx (l2 + 1) k2 := by
          rcases a4 with a4 | a4
          · omega
          · exact a4
        have u1 := G.up (show l2 + 1 < L by omega) hkm
        have u2 := G.up (show l2 + 1 < L by omega) a2
        rw [c1] at u1
        have a7 : idx (l2 + 1) k = idx (l2 + 1) k2 := by omega
        by_cases e' : l2 + 1 = l
        · subst e'; omega
        · have := G.mono (show l2 + 1 < l by omega) hl hkm hkm; omega
      constructor
      · rintro ⟨c1, c2⟩
        rw [if_neg (this c1)] at c2
        exact ⟨c1, c2⟩
      · rintro ⟨c1, c2⟩
        rw [if_neg (this c1)]
        exact ⟨c1, c2⟩
  · rw [hgive]
    split
    · rename_i hm
      obtain ⟨_, b2, b3⟩ := hDF _ hm
      rcases Nat.eq_zero_or_pos l with e | e
      · subst e; omega
      · have := G.mono e hl a2 a2; omega
    · exact h.zero k2 a1 a2 (by omega)
  · have := h.nn k
    rw [hgive]
    split <;> omega
end
theorem planI_all {ls : List Level} {gs : List Group} {m : Nat} {idx : Nat → Nat → Nat} (G : GSat 0 0 gs m ls.length idx) (hl : LvOk ls) : ∀ i, i ≤ gs.length → PlanI gs m ls.length idx (passF ls gs gs.length) i (planF gs (passF ls gs gs.length) i)
  | 0, _ => PlanI.start
  | i + 1, hi => by
    have h := planI_all G hl i (by omega)
    obtain ⟨l, k, q1, q2, q3, _⟩ := G.its (i := i) (by omega)
    subst q3
    exact h.step G q1 q2 (pass_le G hl (by omega))
theorem plan_come {ls : List Level} {gs : List Group} {m : Nat} {idx : Nat → Nat → Nat} (G : GSat 0 0 gs m ls.length idx) (hl : LvOk ls) {i : Nat} (hi : i < gs.length) :
    (comeL gs (planF gs (passF ls gs gs.length) i) i).length = comeN gs (passF ls gs gs.length) i ∧ passF ls gs gs.length i ≤ (comeL gs (planF gs (passF ls gs gs.length) i) i).length := by
  have h := planI_all G hl i (by omega)
  obtain ⟨l, k, q1, q2, q3, _⟩ := G.its hi
  have h1 := pass_le G hl hi
  subst q3
  have h2 := h.come G q1 q2
  exact ⟨h2, by omega⟩
end LB
