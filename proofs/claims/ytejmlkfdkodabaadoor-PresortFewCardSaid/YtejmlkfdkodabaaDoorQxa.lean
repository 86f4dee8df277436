/- Texts of one proof put together. The plain words: labels, levels, pieces, mailings, groups, loads; what is right; which group a code has. Plain Lean, with no program in sight. Plain laws: lists of texts in strictly ascending order; two such lists with the same members are one. Plain laws on groups: the columns of group names, level by level; the groups of a column; where a group of one level lies at the next. Plain laws on schemes: the program's look at nested levels, prefix by prefix, says what the look at all pairs says; codes of one group have one group at the next level. Plain laws on levels, label by label: what a walk over the labels of a level knows at each round. Plain laws: when a scheme is right, level by level. Plain laws: codes of one group at a level of a right scheme have one group at the next. Plain laws: the levels and the items of groups; valid plans. Tables of savings: two merged, what a group makes of what comes. Plain Lean, with no program in sight. How many pieces groups pass on: one after the other as few as possible. Plain Lean, with no program in sight. -/
import Derived.Lib.Strings
namespace LB
open Go

structure Label where
  pre : ByteArray
  grp : ByteArray
structure Level where
  name : ByteArray
  pre : Int
  labels : List Label
  min : Int
  cents : Int
structure Piece where
  id : Int
  point : Int
  code : ByteArray
  grams : Int
  barred : Bool
structure Mailing where
  cls : Int
  country : Int
  origin : ByteArray
  pieces : List Piece
structure Group where
  level : Int
  name : ByteArray
  up : Int
  items : List Int
structure Packing where
  pieces : Int
  grams : Int
  bundles : Int
  trays : Int
structure Bundle where
  level : Int
  group : ByteArray
  pieces : List Int
  grams : Int
structure Tray where
  level : Int
  group : ByteArray
  bundles : List Int
structure Container where
  level : Int
  trays : List Int
structure Load where
  bundles : List Bundle
  trays : List Tray
  containers : List Container

/-! ### 1. Texts -/
def codeCh (b : UInt8) : Bool := decide (65 ≤ b) && decide (b ≤ 90) || decide (48 ≤ b) && decide (b ≤ 57)
def plainS (s : ByteArray) : Bool := s.data.toList.all codeCh
def codeS (s : ByteArray) : Bool := decide (1 ≤ s.size) && (decide (s.size ≤ 10) && plainS s)
def nameCh (b : UInt8) : Bool := decide (33 ≤ b) && decide (b ≤ 126)
def namedS (s : ByteArray) : Bool := s.data.toList.all nameCh && (decide (1 ≤ s.size) && decide (s.size ≤ 20))
def ltS (a b : ByteArray) : Bool := Op.bytesLess a.toList b.toList
def eqS (a b : ByteArray) : Bool := a.toList == b.toList

theorem ba_ext {a b : ByteArray} (h : a.toList = b.toList) : a = b := by
  rw [ByteArray.toList_eq, ByteArray.toList_eq] at h
  exact ByteArray.ext (Array.toList_inj.1 h)
theorem eqS_iff {a b : ByteArray} : eqS a b = true ↔ a = b := by
  unfold eqS
  rw [beq_iff_eq]
  exact ⟨ba_ext, fun h => by rw [h]⟩
theorem eqS_false {a b : ByteArray} : eqS a b = false ↔ a ≠ b := by
  rw [← Bool.not_eq_true, eqS_iff]
theorem eqS_refl (a : ByteArray) : eqS a a = true := eqS_iff.2 rfl
theorem eqS_comm (a b : ByteArray) : eqS a b = eqS b a := by
  rw [Bool.eq_iff_iff, eqS_iff, eqS_iff]
  exact ⟨Eq.symm, Eq.symm⟩
theorem bytesLess_iff : ∀ x y : List UInt8, Op.bytesLess x y = decide (x < y)
  | [], [] => by simp [Op.bytesLess]
  | _ :: _, [] => by simp [Op.bytesLess]
  | [], _ :: _ => by simp [Op.bytesLess]
  | a :: x, b :: y => by
    rw [Op.bytesLess, bytesLess_iff x y]
    simp only [List.cons_lt_cons_iff]
    by_cases h1 : a < b <;> by_cases h2 : a = b <;> by_cases h3 : x < y <;> simp [h1, h2, h3]
theorem ltS_iff {a b : ByteArray} : ltS a b = true ↔ a.toList < b.toList := by
  unfold ltS
  rw [bytesLess_iff, decide_eq_true_iff]
theorem ltS_irrefl (a : ByteArray) : ltS a a = false := by
  rw [← Bool.not_eq_true, ltS_iff]
  exact List.lt_irrefl _
theorem ltS_trans {a b c : ByteArray} (h : ltS a b = true) (k : ltS b c = true) : ltS a c = true := by
  rw [ltS_iff] at *
  exact List.lt_trans h k
theorem ltS_asymm {a b : ByteArray} (h : ltS a b = true) : ltS b a = false := by
  rw [← Bool.not_eq_true]
  intro k
  have := ltS_trans h k
  rw [ltS_irrefl] at this
  exact Bool.noConfusion this
theorem ltS_total {a b : ByteArray} (h : ltS a b = false) (k : eqS a b = false) : ltS b a = true := by
  rw [← Bool.not_eq_true, ltS_iff] at h
  rw [eqS_false] at k
  rw [ltS_iff]
  rcases List.le_iff_lt_or_eq.1 (List.not_lt.1 h) with h1 | h1
  · exact h1
  · exact absurd (ba_ext h1).symm k
theorem ltS_ne {a b : ByteArray} (h : ltS a b = true) : a ≠ b := by
  rintro rfl
  rw [ltS_irrefl] at h
  exact Bool.noConfusion h

/-! ### 2. The group of a prefix; right levels -/
def groupL (ls : List Label) (p : ByteArray) : ByteArray :=
  match ls.find? (fun x => eqS x.pre p) with
  | some x => x.grp
  | none => p
def takeS (s : ByteArray) (n : Int) : ByteArray := s.extract 0 n.toNat
def gname (l : Level) (s : ByteArray) : ByteArray := groupL l.labels (takeS s l.pre)
def labelOk (n : Int) (x : Label) : Bool := decide ((x.pre.size : Int) = n) && (plainS x.pre && namedS x.grp)
def ascending : List Label → Bool
  | [] => true
  | [_] => true
  | x :: y :: r => ltS x.pre y.pre && ascending (y :: r)
def aloneS (l : Level) (last : Bool) : Bool :=
  namedS l.name && (decide (0 ≤ l.pre) && (decide (l.pre ≤ 10) && (decide (0 ≤ l.cents) && (decide (l.cents ≤ 1000000) &&
    (if last then decide (l.pre = 0) && (l.labels.isEmpty && decide (l.min = 0))
     else l.labels.all (labelOk l.pre) && (ascending l.labels && (decide (1 ≤ l.min) && decide (l.min ≤ 2000)))))))) 
/-- The prefixes that can share a group with another one. -/
def shared (n : Int) : List Label → List ByteArray
  | [] => []
  | x :: r => x.pre :: (if decide ((x.grp.size : Int) = n) && plainS x.grp then x.grp :: shared n r else shared n r)
/-- All of one group at a level have one group at the next. -/
def agree (l next : Level) (p q : ByteArray) : Bool :=
  !eqS (groupL l.labels p) (groupL l.labels q) || eqS (groupL next.labels (takeS p next.pre)) (groupL next.labels (takeS q next.pre))
def nestedS (l next : Level) : Bool := (shared l.pre l.labels).all fun p => (shared l.pre l.labels).all fun q => agree l next p q
def chain : List Level → Bool
  | [] => true
  | [_] => true
  | l :: next :: r => decide (next.pre ≤ l.pre) && (nestedS l next && chain (next :: r))
def distinct : List ByteArray → Bool
  | [] => true
  | x :: r => !r.any (eqS x) && distinct r
def lonely : List Level → Bool
  | [] => true
  | [l] => aloneS l true
  | l :: r => aloneS l false && lonely r
def labelSum : List Level → Nat
  | [] => 0
  | l :: r => l.labels.length + labelSum r
def rightS (ls : List Level) : Bool :=
  decide (1 ≤ ls.length) && (decide (ls.length ≤ 6) && (decide (labelSum ls ≤ 200) && (distinct (ls.map (·.name)) && (lonely ls && chain ls))))

/-! ### 3. The group of a code at a level; the number of an error -/
def noText : ByteArray := ⟨#[]⟩
def findS (ls : List Level) (i : Int) (s : ByteArray) : ByteArray × Int :=
  if rightS ls && (decide (0 ≤ i) && (decide (i < ls.length) && codeS s)) then
    match ls[i.toNat]? with
    | some l => if (s.size : Int) < l.pre then (noText, 6) else (gname l s, 0)
    | none => (noText, 2)
  else (noText, 2)
theorem find_arg {ls : List Level} {i : Int} {s : ByteArray} (h : rightS ls = false ∨ i < 0 ∨ (ls.length : Int) ≤ i ∨ codeS s = false) : findS ls i s = (noText, 2) := by
  unfold findS
  rw [if_neg]
  simp only [Bool.and_eq_true, decide_eq_true_eq]
  rintro ⟨h1, h2, h3, h4⟩
  rcases h with h | h | h | h
  · rw [h1] at h; cases h
  · omega
  · omega
  · rw [h4] at h; cases h
theorem find_at_ {ls : List Level} {k : Nat} {s : ByteArray} (h1 : rightS ls = true) (h2 : k < ls.length) (h3 : codeS s = true) : findS ls k s = if (s.size : Int) < ls[k].pre then (noText, 6) else (gname ls[k] s, 0) := by
  unfold findS
  rw [if_pos (by simp [h1, h3, h2]), Int.toNat_natCast, List.getElem?_eq_getElem h2]

/-! ### 4. Mailings -/
def pieceOk (last : Int) (p : Piece) : Bool := decide (last < p.id) && (decide (p.id ≤ 999999) && (decide (0 ≤ p.point) && (decide (p.point ≤ 999999) && (decide (1 ≤ p.grams) && (decide (p.grams ≤ 50000) && codeS p.code)))))
def piecesOk : Int → List Piece → Bool
  | _, [] => true
  | last, p :: r => pieceOk last p && piecesOk p.id r
def headM (m : Mailing) : Bool := decide (1 ≤ m.cls) && (decide (1 ≤ m.country) && (decide (m.country ≤ 3) && (codeS m.origin && decide (m.pieces.length ≤ 2000))))
def mailS (m : Mailing) : Bool := headM m && piecesOk 0 m.pieces

end LB
namespace LB

def Asc (l : List ByteArray) : Prop := l.Pairwise fun a b => ltS a b = true
def insertS (x : ByteArray) : List ByteArray → List ByteArray
  | [] => [x]
  | y :: r => if ltS x y then x :: y :: r else if eqS x y then y :: r else y :: insertS x r
def sortD : List ByteArray → List ByteArray
  | [] => []
  | x :: r => insertS x (sortD r)
theorem mem_insertS {x z : ByteArray} : ∀ {l : List ByteArray}, z ∈ insertS x l ↔ z = x ∨ z ∈ l
  | [] => by simp [insertS]
  | y :: r => by
    rw [insertS]
    split
    · simp
    · split
      · rename_i h
        have := eqS_iff.1 h
        subst this
        simp
      · rw [List.mem_cons, mem_insertS, List.mem_cons]
        constructor
        · rintro (h | h | h)
          · exact .inr (.inl h)
          · exact .inl h
          · exact .inr (.inr h)
        · rintro (h | h | h)
          · exact .inr (.inl h)
          · exact .inl h
          · exact .inr (.inr h)
theorem asc_insertS {x : ByteArray} : ∀ {l : List ByteArray}, Asc l → Asc (insertS x l)
  | [], _ => List.pairwise_singleton _ _
  | y :: r, h => by
    obtain ⟨h1, h2⟩ := List.pairwise_cons.1 h
    rw [insertS]
    split
    · rename_i hx
      refine List.pairwise_cons.2 ⟨fun z hz => ?_, h⟩
      rcases List.mem_cons.1 hz with rfl | hz
      · exact hx
      · exact ltS_trans hx (h1 z hz)
    · rename_i hx
      split
      · exact h
      · rename_i he
        refine List.pairwise_cons.2 ⟨fun z hz => ?_, asc_insertS h2⟩
        rcases mem_insertS.1 hz with rfl | hz
        · exact ltS_total (by simpa using hx) (by simpa using he)
        · exact h1 z hz
theorem mem_sortD {z : ByteArray} : ∀ {l : List ByteArray}, z ∈ sortD l ↔ z ∈ l
  | [] => by simp [sortD]
  | y :: r => by rw [sortD, mem_insertS, mem_sortD, List.mem_cons]
theorem asc_sortD : ∀ l : List ByteArray, Asc (sortD l)
  | [] => List.Pairwise.nil
  | _ :: r => asc_insertS (asc_sortD r)
theorem asc_unique : ∀ {l m : List ByteArray}, Asc l → Asc m → (∀ z, z ∈ l ↔ z ∈ m) → l = m
  | [], [], _, _, _ => rfl
  | [], y :: _, _, _, h => absurd ((h y).2 List.mem_cons_self) (by simp)
  | x :: _, [], _, _, h => absurd ((h x).1 List.mem_cons_self) (by simp)
  | x :: r, y :: t, h1, h2, h => by
    obtain ⟨a1, a2⟩ := List.pairwise_cons.1 h1
    obtain ⟨b1, b2⟩ := List.pairwise_cons.1 h2
    have hxy : x = y := by
      rcases List.mem_cons.1 ((h x).1 List.mem_cons_self) with e | e
      · exact e
      · rcases List.mem_cons.1 ((h y).2 List.mem_cons_self) with e' | e'
        · exact e'.symm
        · have := ltS_asymm (b1 x e)
          rw [a1 y e'] at this
          exact Bool.noConfusion this
    subst hxy
    have : r = t := by
      refine asc_unique a2 b2 fun z => ?_
      constructor
      · intro hz
        rcases List.mem_cons.1 ((h z).1 (List.mem_cons_of_mem _ hz)) with e | e
        · exact absurd e.symm (ltS_ne (a1 z hz))
        · exact e
      · intro hz
        rcases List.mem_cons.1 ((h z).2 (List.mem_cons_of_mem _ hz)) with e | e
        · exact absurd e.symm (ltS_ne (b1 z hz))
        · exact e
    rw [this]

end LB
namespace LB

def itemsFrom (nm : ByteArray) : Nat → List ByteArray → List Int
  | _, [] => []
  | i, x :: r => if eqS x nm then (i : Int) :: itemsFrom nm (i + 1) r else itemsFrom nm (i + 1) r
def colItems (col : List ByteArray) (nm : ByteArray) : List Int := itemsFrom nm 0 col
def posN (x : ByteArray) (l : List ByteArray) : Nat := l.findIdx (eqS x)
def upS (off : Nat) (col next : List ByteArray) (nm : ByteArray) : Int :=
  match colItems col nm with
  | [] => -1
  | i :: _ => match next[i.toNat]? with
    | none => -1
    | some x => (off : Int) + (posN x (sortD next) : Nat)
def groupsN : Int → Nat → List (List ByteArray) → List Group
  | _, _, [] => []
  | n, _, [c] => (sortD c).map fun nm => ⟨n, nm, -1, colItems c nm⟩
  | n, off, c :: c' :: r => (sortD c).map (fun nm => ⟨n, nm, upS (off + (sortD c).length) c c' nm, colItems c nm⟩) ++ groupsN (n + 1) (off + (sortD c).length) (c' :: r)
def cols (ls : List Level) (cs : List ByteArray) : List (List ByteArray) := ls.map fun l => cs.map (gname l)
def shortOf (ls : List Level) (s : ByteArray) : Bool := match ls with | [] => false | l :: _ => decide ((s.size : Int) < l.pre)
def groupsS (ls : List Level) (cs : List ByteArray) : List Group × Int :=
  if 2000 < cs.length then ([], 5) else if !rightS ls || cs.any (fun s => !codeS s) then ([], 2) else if cs.any (shortOf ls) then ([], 6) else (groupsN 0 0 (cols ls cs), 0)

theorem mem_itemsFrom {nm : ByteArray} {z : Int} : ∀ {l : List ByteArray} {i : Nat}, z ∈ itemsFrom nm i l ↔ ∃ k, ∃ h : k < l.length, z = ((i + k : Nat) : Int) ∧ l[k] = nm
  | [], i => by simp [itemsFrom]
  | x :: r, i => by
    rw [itemsFrom]
    constructor
    · intro h
      split at h
      · rename_i hx
        rcases List.mem_cons.1 h with rfl | h
        · exact ⟨0, by simp, by simp, eqS_iff.1 hx⟩
        · obtain ⟨k, hk, e, e'⟩ := mem_itemsFrom.1 h
          exact ⟨k + 1, by simpa using hk, by rw [e]; congr 1; omega, by simpa using e'⟩
      · obtain ⟨k, hk, e, e'⟩ := mem_itemsFrom.1 h
        exact ⟨k + 1, by simpa using hk, by rw [e]; congr 1; omega, by simpa using e'⟩
    · rintro ⟨k, hk, e, e'⟩
      match k, hk, e, e' with
      | 0, _, e, e' =>
        rw [if_pos (eqS_iff.2 (by simpa using e'))]
        rw [e]; simp
      | k + 1, hk, e, e' =>
        have : z ∈ itemsFrom nm (i + 1) r := mem_itemsFrom.2 ⟨k, by simpa using hk, by rw [e]; congr 1; omega, by simpa using e'⟩
        split
        · exact List.mem_cons_of_mem _ this
        · exact this
theorem mem_colItems {nm : ByteArray} {z : Int} {l : List ByteArray} : z ∈ colItems l nm ↔ ∃ k, ∃ h : k < l.length, z = (k : Int) ∧ l[k] = nm := by
  unfold colItems
  rw [mem_itemsFrom]
  simp
theorem itemsFrom_snoc (nm x : ByteArray) : ∀ (l : List ByteArray) (i : Nat), itemsFrom nm i (l ++ [x]) = itemsFrom nm i l ++ (if eqS x nm then [((i + l.length : Nat) : Int)] else [])
  | [], i => by
    simp only [List.nil_append, itemsFrom, List.length_nil, Nat.add_zero]
  | y :: r, i => by
    rw [List.cons_append, itemsFrom, itemsFrom, itemsFrom_snoc nm x r (i + 1), List.length_cons]
    have e : i + 1 + r.length = i + (r.length + 1) := by omega
    rw [e]
    split <;> simp
theorem colItems_next {l : List ByteArray} {k : Nat} (h : k < l.length) (nm : ByteArray) : colItems (l.take (k + 1)) nm = colItems (l.take k) nm ++ (if eqS l[k] nm then [(k : Int)] else []) := by
  unfold colItems
  rw [List.take_succ_eq_append_getElem h, itemsFrom_snoc, Nat.zero_add, List.length_take, Nat.min_eq_left (Nat.le_of_lt h)]
theorem itemsFrom_len (nm : ByteArray) : ∀ (l : List ByteArray) (i : Nat), (itemsFrom nm i l).length ≤ l.length
  | [], _ => Nat.le_refl _
  | x :: r, i => by
    have := itemsFrom_len nm r (i + 1)
    rw [itemsFrom]
    split <;> simp <;> omega
theorem colItems_len (l : List ByteArray) (nm : ByteArray) : (colItems l nm).length ≤ l.length := itemsFrom_len nm l 0
theorem colItems_ne {l : List ByteArray} {nm : ByteArray} (h : nm ∈ l) : colItems l nm ≠ [] := by
  obtain ⟨k, hk, e⟩ := List.getElem_of_mem h
  intro e'
  have := mem_colItems.2 ⟨k, hk, rfl, e⟩
  rw [e'] at this
  cases this
theorem posN_lt {x : ByteArray} {l : List ByteArray} (h : x ∈ l) : posN x l < l.length := by
  unfold posN
  exact List.findIdx_lt_length_of_exists ⟨x, h, eqS_refl x⟩
theorem posN_get {x : ByteArray} {l : List ByteArray} (h : posN x l < l.length) : l[posN x l] = x := (eqS_iff.1 (List.findIdx_getElem (p := eqS x) (w := h))).symm
theorem asc_get {l : List ByteArray} (h : Asc l) {i j : Nat} (hj : j < l.length) (hij : i < j) : ltS (l[i]'(by omega)) l[j] = true := List.pairwise_iff_getElem.1 h i j (by omega) hj hij
theorem asc_get_inj {l : List ByteArray} (h : Asc l) {i j : Nat} (hi : i < l.length) (hj : j < l.length) (e : l[i] = l[j]) : i = j := by
  rcases Nat.lt_trichotomy i j with h1 | h1 | h1
  · exact absurd e (ltS_ne (asc_get h hj h1))
  · exact h1
  · exact absurd e.symm (ltS_ne (asc_get h hi h1))
theorem posN_at {l : List ByteArray} (h : Asc l) {i : Nat} (hi : i < l.length) : posN l[i] l = i :=
  asc_get_inj h (posN_lt (List.getElem_mem hi)) hi (posN_get (posN_lt (List.getElem_mem hi)))
theorem groupsN_len : ∀ (n : Int) (off : Nat) (cs : List (List ByteArray)), (groupsN n off cs).length = (cs.map fun c => (sortD c).length).sum
  | _, _, [] => rfl
  | _, _, [c] => by simp [groupsN]
  | n, off, c :: c' :: r => by
    rw [groupsN, List.length_append, groupsN_len, List.map_cons (l := c' :: r)]
    simp
theorem sortD_len (l : List ByteArray) : (sortD l).length ≤ l.length := by
  have h : ∀ (x : ByteArray) (m : List ByteArray), (insertS x m).length ≤ m.length + 1 := by
    intro x m
    induction m with
    | nil => simp [insertS]
    | cons y r ih =>
      rw [insertS]
      split
      · simp
      · split <;> simp <;> omega
  induction l with
  | nil => exact Nat.le_refl _
  | cons x r ih => rw [sortD]; have := h x (sortD r); simp; omega
/-- An ascending list with the members of another one is that one sorted. -/
theorem sortD_unique {l m : List ByteArray} (h : Asc m) (hm : ∀ z, z ∈ m ↔ z ∈ l) : m = sortD l := asc_unique h (asc_sortD l) (fun z => (hm z).trans mem_sortD.symm)
/-! ### One level after the other -/
def mkG (lv : Int) (col : List ByteArray) (nm : ByteArray) : Group := ⟨lv, nm, -1, colItems col nm⟩
def mkU (lv : Int) (off : Nat) (col next : List ByteArray) (done : Nat → Bool) (nm : ByteArray) : Group := ⟨lv, nm, if (colItems col nm).any (fun z => done z.toNat) then upS off col next nm else -1, colItems col nm⟩
def mkF (lv : Int) (off : Nat) (col next : List ByteArray) (nm : ByteArray) : Group := ⟨lv, nm, upS off col next nm, colItems col nm⟩
theorem groupsN_two (lv : Int) (off : Nat) (c c' : List ByteArray) (r : List (List ByteArray)) : groupsN lv off (c :: c' :: r) = (sortD c).map (mkF lv (off + (sortD c).length) c c') ++ groupsN (lv + 1) (off + (sortD c).length) (c' :: r) := rfl
theorem groupsN_one (lv : Int) (off : Nat) (c : List ByteArray) : groupsN lv off [c] = (sortD c).map (mkG lv c) := rfl
theorem mkU_none (lv : Int) (off : Nat) (col next : List ByteArray) (nm : ByteArray) : mkU lv off col next (fun _ => false) nm = mkG lv col nm := by
  unfold mkU mkG
  simp
theorem mkU_all {lv : Int} {off : Nat} {col next : List ByteArray} {done : Nat → Bool} (hd : ∀ i, i < col.length → done i = true) {nm : ByteArray} (h : nm ∈ sortD col) : mkU lv off col next done nm = mkF lv off col next nm := by
  have h1 := colItems_ne (mem_sortD.1 h)
  unfold mkU mkF
  rw [if_pos]
  rw [List.any_eq_true]
  cases hc : colItems col nm with
  | nil => exact absurd hc h1
  | cons z r =>
    have hz : z ∈ colItems col nm := by rw [hc]; exact List.mem_cons_self
    obtain ⟨k, hk, rfl, _⟩ := mem_colItems.1 hz
    exact ⟨(k : Int), List.mem_cons_self, by simpa using hd k hk⟩
/-- The group that a code belongs to gets its place at the next level. -/
theorem upS_at {off : Nat} {col next : List ByteArray} (hn : ∀ i (h : i < col.length) j (h' : j < col.length) (k : i < next.length) (k' : j < next.length), col[i] = col[j] → next[i] = next[j]) (hl : next.length = col.length) {i : Nat} (hi : i < col.length) : upS off col next col[i] = (off : Int) + (posN (next[i]'(by omega)) (sortD next) : Nat) := by
  have h1 := colItems_ne (List.getElem_mem hi)
  unfold upS
  cases hc : colItems col col[i] with
  | nil => exact absurd hc h1
  | cons z r =>
    have hz : z ∈ colItems col col[i] := by rw [hc]; exact List.mem_cons_self
    obtain ⟨k, hk, rfl, e⟩ := mem_colItems.1 hz
    simp only [Int.toNat_natCast]
    rw [List.getElem?_eq_getElem (show k < next.length by omega)]
    simp only
    rw [hn k hk i hi (by omega) (by omega) e]
theorem items_pair (nm : ByteArray) : ∀ (l : List ByteArray) (i : Nat), (itemsFrom nm i l).Pairwise (· < ·)
  | [], _ => List.Pairwise.nil
  | x :: r, i => by
    rw [itemsFrom]
    split
    · refine List.pairwise_cons.2 ⟨fun z hz => ?_, items_pair nm r (i + 1)⟩
      obtain ⟨k, hk, rfl, _⟩ := mem_itemsFrom.1 hz
      omega
    · exact items_pair nm r (i + 1)
theorem items_inj {l : List ByteArray} {nm : ByteArray} {a b : Nat} (ha : a < (colItems l nm).length) (hb : b < (colItems l nm).length) (e : (colItems l nm)[a] = (colItems l nm)[b]) : a = b := by
  have h := List.pairwise_iff_getElem.1 (items_pair nm l 0)
  rcases Nat.lt_trichotomy a b with h1 | h1 | h1
  · have := h a b ha hb h1
    unfold colItems at e
    omega
  · exact h1
  · have := h b a hb ha h1
    unfold colItems at e
    omega
/-- One more code of a group is done. -/
theorem mkU_step {lv : Int} {off : Nat} {col next : List ByteArray} {done : Nat → Bool} {i : Nat} (hi : i < col.length) {done' : Nat → Bool} (hd : ∀ j, done' j = (done j || j == i)) (q : Nat) (hq : q < (sortD col).length) :
    mkU lv off col next done' (sortD col)[q] = if q = posN col[i] (sortD col) then mkF lv off col next (sortD col)[q] else mkU lv off col next done (sortD col)[q] := by
  have hp := posN_lt (mem_sortD.2 (List.getElem_mem hi))
  have hg := posN_get hp
  by_cases e : q = posN col[i] (sortD col)
  · subst e
    rw [if_pos rfl]
    unfold mkU mkF
    rw [if_pos]
    rw [List.any_eq_true]
    refine ⟨(i : Int), mem_colItems.2 ⟨i, hi, rfl, hg.symm⟩, ?_⟩
    rw [hd]
    simp
  · rw [if_neg e]
    unfold mkU
    have : (colItems col (sortD col)[q]).any (fun z => done' z.toNat) = (colItems col (sortD col)[q]).any (fun z => done z.toNat) := by
      rw [Bool.eq_iff_iff, List.any_eq_true, List.any_eq_true]
      constructor
      · rintro ⟨z, hz, hdz⟩
        refine ⟨z, hz, ?_⟩
        rw [hd] at hdz
        rcases Bool.or_eq_true_iff.1 hdz with h | h
        · exact h
        · exfalso
          obtain ⟨k, hk, rfl, ek⟩ := mem_colItems.1 hz
          have hki : k = i := by simpa using h
          subst hki
          refine e ?_
          rw [ek, posN_at (asc_sortD col) hq]
      · rintro ⟨z, hz, hdz⟩
        exact ⟨z, hz, by rw [hd, hdz]; rfl⟩
    rw [this]
end LB
namespace LB

/-- One prefix after the other, each held against the first one of its group. -/
def fitsAll (g h : ByteArray → ByteArray) : List ByteArray → List ByteArray → Bool
  | _, [] => true
  | seen, p :: r =>
    match seen.find? (fun q => eqS (g q) (g p)) with
    | none => fitsAll g h (seen ++ [p]) r
    | some q => eqS (h p) (h q) && fitsAll g h seen r
def alike (g h : ByteArray → ByteArray) (p q : ByteArray) : Prop := g p = g q → h p = h q
theorem fitsAll_iff (g h : ByteArray → ByteArray) : ∀ (todo done seen : List ByteArray),
    (∀ q ∈ seen, q ∈ done) → (∀ p ∈ done, ∃ q ∈ seen, g q = g p) → (∀ p ∈ done, ∀ q ∈ done, alike g h p q) →
    (fitsAll g h seen todo = true ↔ ∀ p ∈ done ++ todo, ∀ q ∈ done ++ todo, alike g h p q)
  | [], done, seen, _, _, hA => by
    simp only [fitsAll, List.append_nil, true_iff]
    exact hA
  | p :: r, done, seen, hs, hd, hA => by
    rw [fitsAll]
    have hap : done ++ p :: r = (done ++ [p]) ++ r := by simp
    cases hf : seen.find? (fun q => eqS (g q) (g p)) with
    | none =>
      rw [List.find?_eq_none] at hf
      have hno : ∀ q ∈ done, g q ≠ g p := by
        intro q hq he
        obtain ⟨q', hq', e⟩ := hd q hq
        exact hf q' hq' (eqS_iff.2 (e.trans he))
      rw [hap]
      refine fitsAll_iff g h r (done ++ [p]) (seen ++ [p]) ?_ ?_ ?_
      · intro q hq
        rcases List.mem_append.1 hq with hq | hq
        · exact List.mem_append_left _ (hs q hq)
        · exact List.mem_append_right _ hq
      · intro q hq
        rcases List.mem_append.1 hq with hq | hq
        · obtain ⟨q', hq', e⟩ := hd q hq
          exact ⟨q', List.mem_append_left _ hq', e⟩
        · exact ⟨q, List.mem_append_right _ hq, rfl⟩
      · intro a ha b hb
        rcases List.mem_append.1 ha with ha | ha <;> rcases List.mem_append.1 hb with hb | hb
        · exact hA a ha b hb
        · rw [List.mem_singleton.1 hb]
          exact fun e => absurd e (hno a ha)
        · rw [List.mem_singleton.1 ha]
          exact fun e => absurd e.symm (hno b hb)
        · rw [List.mem_singleton.1 ha, List.mem_singleton.1 hb]
          exact fun _ => rfl
    | some q =>
      have hq := List.mem_of_find?_eq_some hf
      have hg : g q = g p := eqS_iff.1 (List.find?_some (p := fun q => eqS (g q) (g p)) hf)
      simp only [Bool.and_eq_true]
      by_cases he : eqS (h p) (h q) = true
      · have he' := eqS_iff.1 he
        simp only [he, true_and]
        rw [hap]
        refine fitsAll_iff g h r (done ++ [p]) seen (fun q hq => List.mem_append_left _ (hs q hq)) ?_ ?_
        · intro x hx
          rcases List.mem_append.1 hx with hx | hx
          · exact hd x hx
          · rw [List.mem_singleton.1 hx]
            exact ⟨q, hq, hg⟩
        · have key : ∀ a ∈ done, g a = g p → h a = h p := fun a ha e => (hA a ha q (hs q hq) (e.trans hg.symm)).trans he'.symm
          intro a ha b hb
          rcases List.mem_append.1 ha with ha | ha <;> rcases List.mem_append.1 hb with hb | hb
          · exact hA a ha b hb
          · rw [List.mem_singleton.1 hb]
            exact key a ha
          · rw [List.mem_singleton.1 ha]
            exact fun e => (key b hb e.symm).symm
          · rw [List.mem_singleton.1 ha, List.mem_singleton.1 hb]
            exact fun _ => rfl
      · refine ⟨fun hh => absurd hh.1 he, fun hall => ?_⟩
        have : h p = h q := hall p (by simp) q (by simp [hs q hq]) hg.symm
        exact absurd (eqS_iff.2 this) he
theorem agree_iff (l next : Level) (p q : ByteArray) : agree l next p q = true ↔ alike (groupL l.labels) (fun s => groupL next.labels (takeS s next.pre)) p q := by
  unfold agree alike
  rw [Bool.or_eq_true, eqS_iff, Bool.not_eq_true', eqS_false]
  constructor
  · rintro (h | h) e
    · exact absurd e h
    · exact h
  · intro h
    by_cases e : groupL l.labels p = groupL l.labels q
    · exact .inr (h e)
    · exact .inl e
theorem nestedS_iff (l next : Level) : nestedS l next = true ↔ ∀ p ∈ shared l.pre l.labels, ∀ q ∈ shared l.pre l.labels, alike (groupL l.labels) (fun s => groupL next.labels (takeS s next.pre)) p q := by
  unfold nestedS
  simp only [List.all_eq_true, agree_iff]
theorem nested_fits (l next : Level) : fitsAll (groupL l.labels) (fun s => groupL next.labels (takeS s next.pre)) [] (shared l.pre l.labels) = nestedS l next := by
  rw [Bool.eq_iff_iff, nestedS_iff, fitsAll_iff _ _ _ [] [] (by simp) (by simp) (by simp)]
  simp

/-! ### Codes of one group have one group at the next level -/
theorem mem_shared {n : Int} {x : Label} : ∀ {ls : List Label}, x ∈ ls → x.pre ∈ shared n ls ∧ (((x.grp.size : Int) = n) → plainS x.grp = true → x.grp ∈ shared n ls)
  | y :: r, h => by
    rw [shared]
    rcases List.mem_cons.1 h with rfl | h
    · refine ⟨List.mem_cons_self, fun h1 h2 => List.mem_cons_of_mem _ ?_⟩
      rw [if_pos (by simp [h1, h2])]
      exact List.mem_cons_self
    · obtain ⟨i1, i2⟩ := mem_shared h
      split
      · exact ⟨List.mem_cons_of_mem _ (List.mem_cons_of_mem _ i1), fun a b => List.mem_cons_of_mem _ (List.mem_cons_of_mem _ (i2 a b))⟩
      · exact ⟨List.mem_cons_of_mem _ i1, fun a b => List.mem_cons_of_mem _ (i2 a b)⟩
theorem groupL_cases (ls : List Label) (p : ByteArray) : (∃ x ∈ ls, x.pre = p ∧ groupL ls p = x.grp) ∨ ((∀ x ∈ ls, x.pre ≠ p) ∧ groupL ls p = p) := by
  unfold groupL
  cases hf : ls.find? (fun x => eqS x.pre p) with
  | none =>
    rw [List.find?_eq_none] at hf
    exact .inr ⟨fun x hx e => hf x hx (eqS_iff.2 e), rfl⟩
  | some x => exact .inl ⟨x, List.mem_of_find?_eq_some hf, eqS_iff.1 (List.find?_some (p := fun x : Label => eqS x.pre p) hf), rfl⟩
/-- Two plain prefixes of a level. -/
theorem nested_use {l next : Level} (h : nestedS l next = true) {p q : ByteArray} (hp : (p.size : Int) = l.pre) (hq : (q.size : Int) = l.pre) (pp : plainS p = true) (pq : plainS q = true)
    (e : groupL l.labels p = groupL l.labels q) : groupL next.labels (takeS p next.pre) = groupL next.labels (takeS q next.pre) := by
  rw [nestedS_iff] at h
  rcases groupL_cases l.labels p with ⟨x, hx, rfl, ex⟩ | ⟨_, ex⟩ <;> rcases groupL_cases l.labels q with ⟨y, hy, rfl, ey⟩ | ⟨_, ey⟩
  · exact h _ (mem_shared hx).1 _ (mem_shared hy).1 e
  · have eq : x.grp = q := by rw [← ex, ← ey, e]
    exact h _ (mem_shared hx).1 q (by rw [← eq]; exact (mem_shared hx).2 (by rw [eq]; exact hq) (by rw [eq]; exact pq)) e
  · have eq : y.grp = p := by rw [← ey, ← ex, e]
    exact h p (by rw [← eq]; exact (mem_shared hy).2 (by rw [eq]; exact hp) (by rw [eq]; exact pp)) _ (mem_shared hy).1 e
  · have : p = q := by rw [← ex, ← ey, e]
    rw [this]

end LB
namespace LB

def reach : Nat := 140737488351232
structure Label.Fit (x : Label) : Prop where
  pre : x.pre.size ≤ reach
  grp : x.grp.size ≤ reach
structure Level.Fit (l : Level) : Prop where
  name : l.name.size ≤ reach
  many : l.labels.length ≤ 1000000
  each : ∀ x ∈ l.labels, x.Fit
structure Piece.Fit (p : Piece) : Prop where
  code : p.code.size ≤ reach
structure Mailing.Fit (m : Mailing) : Prop where
  cls0 : 0 ≤ m.cls
  cls1 : m.cls ≤ 255
  ctr0 : 0 ≤ m.country
  ctr1 : m.country ≤ 255
  origin : m.origin.size ≤ reach
  many : m.pieces.length ≤ 1000000
  each : ∀ p ∈ m.pieces, p.Fit

theorem ascending_iff : ∀ {ls : List Label}, ascending ls = true ↔ ∀ j (h : j < ls.length), 0 < j → ltS (ls[j - 1]'(by omega)).pre ls[j].pre = true
  | [] => by simp [ascending]
  | [x] => by
    simp only [ascending, true_iff]
    intro j h h0
    simp at h
    omega
  | x :: y :: r => by
    rw [ascending, Bool.and_eq_true, ascending_iff]
    constructor
    · rintro ⟨h1, h2⟩ j hj h0
      match j, hj, h0 with
      | 1, _, _ => exact h1
      | j + 2, hj, _ => exact h2 (j + 1) (by simpa using hj) (by omega)
    · intro h
      refine ⟨h 1 (by simp) (by omega), fun j hj h0 => ?_⟩
      match j, hj, h0 with
      | j + 1, hj, _ => exact h (j + 2) (by simpa using hj) (by omega)
/-- The labels ahead of the k-th are right. -/
def Upto (n : Int) (ls : List Label) (k : Nat) : Prop := ∀ j (h : j < ls.length), j < k → labelOk n ls[j] = true ∧ (0 < j → ltS (ls[j - 1]'(by omega)).pre ls[j].pre = true)
theorem Upto.zero (n : Int) (ls : List Label) : Upto n ls 0 := fun _ _ h => by omega
theorem Upto.next {n : Int} {ls : List Label} {k : Nat} (h : Upto n ls k) (hk : k < ls.length) (h1 : labelOk n ls[k] = true) (h2 : 0 < k → ltS (ls[k - 1]'(by omega)).pre ls[k].pre = true) : Upto n ls (k + 1) := by
  intro j hj hjk
  by_cases e : j = k
  · subst e
    exact ⟨h1, h2⟩
  · exact h j hj (by omega)
theorem Upto.all {n : Int} {ls : List Label} (h : Upto n ls ls.length) : (ls.all (labelOk n) && ascending ls) = true := by
  rw [Bool.and_eq_true, List.all_eq_true, ascending_iff]
  refine ⟨fun x hx => ?_, fun j hj h0 => (h j hj hj).2 h0⟩
  obtain ⟨j, hj, rfl⟩ := List.getElem_of_mem hx
  exact (h j hj hj).1
theorem labels_bad {n : Int} {ls : List Label} {k : Nat} (hk : k < ls.length) (h : labelOk n ls[k] = false ∨ (0 < k ∧ ltS (ls[k - 1]'(by omega)).pre ls[k].pre = false)) : (ls.all (labelOk n) && ascending ls) = false := by
  rw [← Bool.not_eq_true, Bool.and_eq_true, List.all_eq_true, ascending_iff]
  rintro ⟨h1, h2⟩
  rcases h with h | ⟨h0, h⟩
  · rw [h1 _ (List.getElem_mem hk)] at h
    exact Bool.noConfusion h
  · rw [h2 k hk h0] at h
    exact Bool.noConfusion h

/-! ### A level by itself -/
def headOk (l : Level) : Bool := namedS l.name && (decide (0 ≤ l.pre) && (decide (l.pre ≤ 10) && (decide (0 ≤ l.cents) && decide (l.cents ≤ 1000000))))
theorem alone_head {l : Level} (last : Bool) (h : headOk l = false) : aloneS l last = false := by
  unfold headOk at h
  unfold aloneS
  cases hn : namedS l.name <;> rw [hn] at h
  · rfl
  · rw [Bool.true_and] at *
    revert h
    by_cases h1 : 0 ≤ l.pre <;> by_cases h2 : l.pre ≤ 10 <;> by_cases h3 : 0 ≤ l.cents <;> by_cases h4 : l.cents ≤ 1000000 <;> simp only [h1, h2, h3, h4, decide_true, decide_false, Bool.true_and, Bool.false_and, implies_true, Bool.true_eq_false, false_implies]
theorem alone_last {l : Level} (h : headOk l = true) : aloneS l true = (decide (l.pre = 0) && (l.labels.isEmpty && decide (l.min = 0))) := by
  unfold headOk at h
  simp only [Bool.and_eq_true, decide_eq_true_eq] at h
  obtain ⟨h0, h1, h2, h3, h4⟩ := h
  unfold aloneS
  simp [h0, h1, h2, h3, h4]
theorem alone_mid {l : Level} (h : headOk l = true) : aloneS l false = ((l.labels.all (labelOk l.pre) && ascending l.labels) && (decide (1 ≤ l.min) && decide (l.min ≤ 2000))) := by
  unfold headOk at h
  simp only [Bool.and_eq_true, decide_eq_true_eq] at h
  obtain ⟨h0, h1, h2, h3, h4⟩ := h
  unfold aloneS
  simp [h0, h1, h2, h3, h4, Bool.and_assoc]
theorem headOk_of {l : Level} (h : namedS l.name = true) (h1 : 0 ≤ l.pre) (h2 : l.pre ≤ 10) (h3 : 0 ≤ l.cents) (h4 : l.cents ≤ 1000000) : headOk l = true := by simp [headOk, h, h1, h2, h3, h4]
theorem headOk_no {l : Level} (h : namedS l.name = false ∨ l.pre < 0 ∨ 10 < l.pre ∨ l.cents < 0 ∨ 1000000 < l.cents) : headOk l = false := by
  unfold headOk
  rcases h with h | h | h | h | h
  · rw [h]; rfl
  all_goals
    cases namedS l.name
    · rfl
    · simp; omega
theorem labelOk_no {n : Int} {x : Label} (h : (x.pre.size : Int) ≠ n ∨ plainS x.pre = false ∨ namedS x.grp = false) : labelOk n x = false := by
  unfold labelOk
  rcases h with h | h | h
  · simp [h]
  · simp [h]
  · simp [h]
theorem labelOk_of {n : Int} {x : Label} (h : (x.pre.size : Int) = n) (h1 : plainS x.pre = true) (h2 : namedS x.grp = true) : labelOk n x = true := by simp [labelOk, h, h1, h2]

end LB
namespace LB

theorem lonely_iff : ∀ {ls : List Level}, lonely ls = true ↔ ∀ i (h : i < ls.length), aloneS ls[i] (decide (i + 1 = ls.length)) = true
  | [] => by simp [lonely]
  | [l] => by
    simp only [lonely, List.length_singleton]
    constructor
    · intro h i hi
      obtain rfl : i = 0 := by omega
      simpa using h
    · intro h
      simpa using h 0 (by omega)
  | l :: m :: r => by
    rw [lonely, Bool.and_eq_true, lonely_iff]
    · constructor
      · rintro ⟨h1, h2⟩ i hi
        match i, hi with
        | 0, _ => simpa using h1
        | i + 1, hi =>
          have := h2 i (by simpa using hi)
          simpa using this
      · intro h
        refine ⟨by have h0 := h 0 (by simp); simp only [List.getElem_cons_zero] at h0; simpa using h0, fun i hi => ?_⟩
        have := h (i + 1) (by simpa using hi)
        simpa using this
    · simp
theorem chain_iff : ∀ {ls : List Level}, chain ls = true ↔ ∀ i (h : i < ls.length), 0 < i → ls[i].pre ≤ (ls[i - 1]'(by omega)).pre ∧ nestedS (ls[i - 1]'(by omega)) ls[i] = true
  | [] => by simp [chain]
  | [l] => by
    simp only [chain, List.length_singleton, true_iff]
    intro i hi h0
    omega
  | l :: m :: r => by
    rw [chain, Bool.and_eq_true, Bool.and_eq_true, chain_iff, decide_eq_true_eq]
    constructor
    · rintro ⟨h0, h1, h2⟩ i hi hp
      match i, hi, hp with
      | 1, _, _ => exact ⟨h0, h1⟩
      | i + 2, hi, _ => exact h2 (i + 1) (by simpa using hi) (by omega)
    · intro h
      refine ⟨(h 1 (by simp) (by omega)).1, (h 1 (by simp) (by omega)).2, fun i hi hp => ?_⟩
      match i, hi, hp with
      | i + 1, hi, _ => exact h (i + 2) (by simpa using hi) (by omega)
theorem distinct_iff : ∀ {l : List ByteArray}, distinct l = true ↔ ∀ i (h : i < l.length), ∀ k (hk : k < i), eqS (l[k]'(by omega)) l[i] = false
  | [] => by simp [distinct]
  | x :: r => by
    rw [distinct, Bool.and_eq_true, distinct_iff, Bool.not_eq_true', List.any_eq_false]
    constructor
    · rintro ⟨h1, h2⟩ i hi k hk
      match i, hi, k, hk with
      | i + 1, hi, 0, _ => simpa using h1 (r[i]'(by simpa using hi)) (List.getElem_mem _)
      | i + 1, hi, k + 1, hk => exact h2 i (by simpa using hi) k (by omega)
    · intro h
      refine ⟨fun y hy => ?_, fun i hi k hk => h (i + 1) (by simpa using hi) (k + 1) (by omega)⟩
      obtain ⟨i, hi, rfl⟩ := List.getElem_of_mem hy
      have h0 := h (i + 1) (by simpa using hi) 0 (by omega)
      simp only [List.getElem_cons_zero, List.getElem_cons_succ] at h0
      simp [h0]
structure GoodAt (ls : List Level) (i : Nat) (h : i < ls.length) : Prop where
  alone : aloneS ls[i] (decide (i + 1 = ls.length)) = true
  names : ∀ k (hk : k < i), eqS (ls[k]'(by omega)).name ls[i].name = false
  less : 0 < i → ls[i].pre ≤ (ls[i - 1]'(by omega)).pre
  nest : 0 < i → nestedS (ls[i - 1]'(by omega)) ls[i] = true
theorem right_iff {ls : List Level} : rightS ls = true ↔ 1 ≤ ls.length ∧ ls.length ≤ 6 ∧ labelSum ls ≤ 200 ∧ ∀ i (h : i < ls.length), GoodAt ls i h := by
  unfold rightS
  simp only [Bool.and_eq_true, decide_eq_true_eq, distinct_iff, lonely_iff, chain_iff]
  constructor
  · rintro ⟨h1, h2, h3, h4, h5, h6⟩
    refine ⟨h1, h2, h3, fun i hi => ⟨h5 i hi, fun k hk => ?_, fun h0 => (h6 i hi h0).1, fun h0 => (h6 i hi h0).2⟩⟩
    have := h4 i (by simpa using hi) k hk
    simpa using this
  · rintro ⟨h1, h2, h3, h4⟩
    refine ⟨h1, h2, h3, fun i hi k hk => ?_, fun i hi => (h4 i hi).alone, fun i hi h0 => ⟨(h4 i hi).less h0, (h4 i hi).nest h0⟩⟩
    have := (h4 i (by simpa using hi)).names k hk
    simpa using this
theorem right_no {ls : List Level} (h : ls.length < 1 ∨ 6 < ls.length ∨ 200 < labelSum ls) : rightS ls = false := by
  rw [← Bool.not_eq_true, right_iff]
  rintro ⟨h1, h2, h3, _⟩
  omega
theorem right_bad {ls : List Level} {i : Nat} (hi : i < ls.length) (h : ¬ GoodAt ls i hi) : rightS ls = false := by
  rw [← Bool.not_eq_true, right_iff]
  rintro ⟨_, _, _, h4⟩
  exact h (h4 i hi)
theorem labelSum_take {ls : List Level} {k : Nat} (h : k < ls.length) : labelSum (ls.take (k + 1)) = labelSum (ls.take k) + ls[k].labels.length := by
  rw [List.take_succ_eq_append_getElem h]
  have : ∀ (a : List Level) (b : Level), labelSum (a ++ [b]) = labelSum a + b.labels.length := by
    intro a b
    induction a with
    | nil => simp [labelSum]
    | cons x r ih => rw [List.cons_append, labelSum, labelSum, ih]; omega
  exact this _ _
theorem labelSum_le {B : Nat} : ∀ {ls : List Level}, (∀ l ∈ ls, l.labels.length ≤ B) → labelSum ls ≤ ls.length * B
  | [], _ => by simp [labelSum]
  | x :: r, h => by
    have h1 := h x List.mem_cons_self
    have h2 := labelSum_le (ls := r) (fun l hl => h l (List.mem_cons_of_mem _ hl))
    rw [labelSum, List.length_cons, Nat.add_mul, Nat.one_mul]
    omega
/-- What a level that is right by itself gives. -/
theorem alone_gives {l : Level} {last : Bool} (h : aloneS l last = true) : namedS l.name = true ∧ 0 ≤ l.pre ∧ l.pre ≤ 10 ∧ 0 ≤ l.cents ∧ l.cents ≤ 1000000 ∧ (last = true → l.pre = 0 ∧ l.labels = [] ∧ l.min = 0) ∧ (last = false → (∀ x ∈ l.labels, labelOk l.pre x = true) ∧ ascending l.labels = true ∧ 1 ≤ l.min ∧ l.min ≤ 2000) := by
  unfold aloneS at h
  cases last
  · simp only [Bool.and_eq_true, decide_eq_true_eq, List.all_eq_true, Bool.false_eq_true, if_false] at h
    obtain ⟨h0, h1, h2, h3, h4, h5, h6, h7, h8⟩ := h
    exact ⟨h0, h1, h2, h3, h4, fun e => (Bool.noConfusion e), fun _ => ⟨h5, h6, h7, h8⟩⟩
  · simp only [Bool.and_eq_true, decide_eq_true_eq, if_true, List.isEmpty_iff] at h
    obtain ⟨h0, h1, h2, h3, h4, h5, h6, h7⟩ := h
    exact ⟨h0, h1, h2, h3, h4, fun _ => ⟨h5, h6, h7⟩, fun e => (Bool.noConfusion e)⟩
theorem labelOk_gives {n : Int} {x : Label} (h : labelOk n x = true) : (x.pre.size : Int) = n ∧ plainS x.pre = true ∧ namedS x.grp = true := by
  unfold labelOk at h
  simpa using h
theorem alone_sizes {l : Level} {last : Bool} (h : aloneS l last = true) : ∀ x ∈ l.labels, (x.pre.size : Int) = l.pre := by
  intro x hx
  obtain ⟨_, _, _, _, _, h1, h2⟩ := alone_gives h
  cases last with
  | true => rw [(h1 rfl).2.1] at hx; cases hx
  | false => exact (labelOk_gives ((h2 rfl).1 x hx)).1

end LB
namespace LB

theorem takeS_size {s : ByteArray} {n : Int} (h0 : 0 ≤ n) (h : n ≤ s.size) : ((takeS s n).size : Int) = n := by
  unfold takeS
  rw [ByteArray.size_extract]
  omega
theorem takeS_data (s : ByteArray) (n : Int) : (takeS s n).data.toList = s.data.toList.take n.toNat := by
  unfold takeS
  simp [ByteArray.data_extract, Array.toList_extract]
theorem takeS_plain {s : ByteArray} (h : plainS s = true) (n : Int) : plainS (takeS s n) = true := by
  unfold plainS at *
  rw [takeS_data, List.all_eq_true]
  rw [List.all_eq_true] at h
  exact fun x hx => h x (List.mem_of_mem_take hx)
theorem takeS_takeS {s : ByteArray} {m n : Int} (h : n ≤ m) : takeS (takeS s m) n = takeS s n := by
  refine ByteArray.ext (Array.toList_inj.1 ?_)
  rw [takeS_data, takeS_data, takeS_data, List.take_take]
  congr 1
  omega
theorem code_plain {s : ByteArray} (h : codeS s = true) : plainS s = true := by
  unfold codeS at h
  simp only [Bool.and_eq_true] at h
  exact h.2.2
theorem pre_first {ls : List Level} (h : rightS ls = true) : ∀ {n : Nat} (hn : n < ls.length), ls[n].pre ≤ (ls[0]'(by omega)).pre
  | 0, _ => Int.le_refl _
  | n + 1, hn => by
    have h1 := ((right_iff.1 h).2.2.2 (n + 1) hn).less (by omega)
    have h2 := pre_first h (n := n) (by omega)
    simp only [Nat.add_sub_cancel] at h1
    omega
theorem pre_nn {ls : List Level} (h : rightS ls = true) {n : Nat} (hn : n < ls.length) : 0 ≤ ls[n].pre := (alone_gives ((right_iff.1 h).2.2.2 n hn).alone).2.1
theorem long_enough {ls : List Level} (h : rightS ls = true) {n : Nat} (hn : n < ls.length) {s : ByteArray} (hs : shortOf ls s = false) : ls[n].pre ≤ s.size := by
  have h1 := pre_first h hn
  match ls, hn, h1, hs with
  | l :: r, hn, h1, hs =>
    unfold shortOf at hs
    simp at hs
    simp at h1
    omega
theorem cols_nest {ls : List Level} (h : rightS ls = true) {n : Nat} (hn : n + 1 < ls.length) {s t : ByteArray} (hs : codeS s = true) (ht : codeS t = true) (hs' : shortOf ls s = false) (ht' : shortOf ls t = false)
    (e : gname (ls[n]'(by omega)) s = gname (ls[n]'(by omega)) t) : gname ls[n + 1] s = gname ls[n + 1] t := by
  have hg := (right_iff.1 h).2.2.2 (n + 1) hn
  have h1 := hg.less (by omega)
  have h2 := hg.nest (by omega)
  simp only [Nat.add_sub_cancel] at h1 h2
  have l1 := long_enough h (show n < ls.length by omega) hs'
  have l2 := long_enough h (show n < ls.length by omega) ht'
  have h0 := pre_nn h (show n < ls.length by omega)
  have := nested_use h2 (takeS_size h0 l1) (takeS_size h0 l2) (takeS_plain (code_plain hs) _) (takeS_plain (code_plain ht) _) e
  rw [takeS_takeS h1, takeS_takeS h1] at this
  exact this
theorem groups_many {ls : List Level} {cs : List ByteArray} (h : 2000 < cs.length) : groupsS ls cs = ([], 5) := by rw [groupsS, if_pos h]
theorem groups_arg {ls : List Level} {cs : List ByteArray} (h : cs.length ≤ 2000) (h' : (!rightS ls || cs.any (fun s => !codeS s)) = true) : groupsS ls cs = ([], 2) := by
  rw [groupsS, if_neg (by omega), if_pos h']
theorem groups_none {ls : List Level} {cs : List ByteArray} (h : cs.length ≤ 2000) (h1 : rightS ls = true) (h2 : cs.any (fun s => !codeS s) = false) (h3 : cs.any (shortOf ls) = true) : groupsS ls cs = ([], 6) := by
  rw [groupsS, if_neg (by omega), h1, h2, if_neg (by simp), if_pos h3]
theorem groups_ok {ls : List Level} {cs : List ByteArray} (h : cs.length ≤ 2000) (h1 : rightS ls = true) (h2 : cs.any (fun s => !codeS s) = false) (h3 : cs.any (shortOf ls) = false) : groupsS ls cs = (groupsN 0 0 (cols ls cs), 0) := by
  rw [groupsS, if_neg (by omega), h1, h2, if_neg (by simp), if_neg (by simp [h3])]
theorem cols_len (ls : List Level) (cs : List ByteArray) : (cols ls cs).length = ls.length := by simp [cols]
theorem cols_get {ls : List Level} {cs : List ByteArray} {n : Nat} (h : n < ls.length) : (cols ls cs)[n]'(by rw [cols_len]; exact h) = cs.map (gname ls[n]) := by simp [cols]
end LB
namespace LB

theorem groupsN_mem : ∀ {C : List (List ByteArray)} {lv : Int} {off : Nat} {g : Group}, g ∈ groupsN lv off C → lv ≤ g.level ∧ g.level < lv + C.length ∧ ∃ c ∈ C, ∀ z ∈ g.items, ∃ k, k < c.length ∧ z = ((k : Nat) : Int)
  | [], _, _, _, h => by cases h
  | [c], lv, off, g, h => by
    rw [groupsN_one] at h
    obtain ⟨nm, _, rfl⟩ := List.mem_map.1 h
    refine ⟨Int.le_refl _, by simp [mkG]; omega, c, List.mem_cons_self, fun z hz => ?_⟩
    obtain ⟨k, hk, e, _⟩ := mem_colItems.1 hz
    exact ⟨k, hk, e⟩
  | c :: c' :: r, lv, off, g, h => by
    rw [groupsN_two] at h
    rcases List.mem_append.1 h with h | h
    · obtain ⟨nm, _, rfl⟩ := List.mem_map.1 h
      refine ⟨Int.le_refl _, by simp [mkF]; omega, c, List.mem_cons_self, fun z hz => ?_⟩
      obtain ⟨k, hk, e, _⟩ := mem_colItems.1 hz
      exact ⟨k, hk, e⟩
    · obtain ⟨h1, h2, c0, hc0, h3⟩ := groupsN_mem h
      refine ⟨by omega, by simp only [List.length_cons] at *; omega, c0, List.mem_cons_of_mem _ hc0, h3⟩
theorem groupsS_mem {ls : List Level} {cs : List ByteArray} {g : Group} (h : g ∈ (groupsS ls cs).1) : 0 ≤ g.level ∧ g.level < ls.length ∧ ∀ z ∈ g.items, ∃ k, k < cs.length ∧ z = ((k : Nat) : Int) := by
  unfold groupsS at h
  split at h
  · cases h
  · split at h
    · cases h
    · split at h
      · cases h
      · obtain ⟨h1, h2, c, hc, h3⟩ := groupsN_mem h
        rw [cols_len] at h2
        refine ⟨h1, by omega, fun z hz => ?_⟩
        obtain ⟨k, hk, e⟩ := h3 z hz
        obtain ⟨l, _, rfl⟩ := List.mem_map.1 hc
        exact ⟨k, by simpa using hk, e⟩
/-- How many of a group's pieces it takes. -/
def taken (plan : List Int) (lv : Int) (items : List Int) : Nat := (items.filter fun z => plan.getD z.toNat 0 == lv).length
def minAt (ls : List Level) (lv : Int) : Int := match ls[lv.toNat]? with | some l => l.min | none => 0
def groupOk (ls : List Level) (plan : List Int) (g : Group) : Bool := taken plan g.level g.items == 0 || decide (minAt ls g.level ≤ (taken plan g.level g.items : Nat))
end LB
namespace LB

/-- The saving at n; -1 where it is not possible. -/
def tat (a : List Int) (n : Nat) : Int := a.getD n (-1)
def Okt (a : List Int) : Prop := ∀ x ∈ a, -1 ≤ x
theorem tat_lt {a : List Int} {n : Nat} (h : tat a n ≠ -1) : n < a.length := by
  unfold tat at h
  rw [List.getD_eq_getElem?_getD] at h
  by_cases hn : n < a.length
  · exact hn
  · rw [List.getElem?_eq_none (by omega)] at h
    exact absurd rfl h
theorem tat_get {a : List Int} {n : Nat} (h : n < a.length) : tat a n = a[n] := by
  unfold tat
  rw [List.getD_eq_getElem?_getD, List.getElem?_eq_getElem h]
  rfl
theorem Okt.ge {a : List Int} (h : Okt a) (n : Nat) : -1 ≤ tat a n := by
  by_cases hn : n < a.length
  · rw [tat_get hn]; exact h _ (List.getElem_mem hn)
  · unfold tat
    rw [List.getD_eq_getElem?_getD, List.getElem?_eq_none (by omega)]
    simp
theorem Okt.nn {a : List Int} (h : Okt a) {n : Nat} (hn : tat a n ≠ -1) : 0 ≤ tat a n := by
  have := h.ge n
  omega
theorem tat_range {m : Nat} {f : Nat → Int} {n : Nat} (h : n < m) : tat ((List.range m).map f) n = f n := by
  rw [tat_get (by simpa using h)]
  simp
theorem tat_range_ge {m : Nat} {f : Nat → Int} {n : Nat} (h : m ≤ n) : tat ((List.range m).map f) n = -1 := by
  unfold tat
  rw [List.getD_eq_getElem?_getD, List.getElem?_eq_none (by simpa using h)]
  rfl

/-! ### Two tables together -/
def rowF (x : Int) (b : List Int) (i : Nat) (f : Nat → Int) : Nat → Nat → Int
  | 0 => f
  | k + 1 => if tat b k = -1 then rowF x b i f k else fun j => if j = i + k then max (rowF x b i f k (i + k)) (x + tat b k) else rowF x b i f k j
def mergeF (a b : List Int) : Nat → Nat → Int
  | 0 => fun _ => -1
  | i + 1 => if tat a i = -1 then mergeF a b i else rowF (tat a i) b i (mergeF a b i) b.length
def mergeS (a b : List Int) : List Int := (List.range (a.length + b.length - 1)).map (mergeF a b a.length)

theorem rowF_old {x : Int} {b : List Int} {i : Nat} {f : Nat → Int} (n : Nat) : ∀ k, f n ≤ rowF x b i f k n
  | 0 => Int.le_refl _
  | k + 1 => by
    have h := rowF_old (x := x) (b := b) (i := i) (f := f) n k
    rw [rowF]
    split
    · exact h
    · show _ ≤ if n = i + k then _ else _
      split
      · rename_i e; rw [e] at h ⊢; omega
      · exact h
theorem rowF_new {x : Int} {b : List Int} {i : Nat} {f : Nat → Int} {q : Nat} (hq : tat b q ≠ -1) : ∀ k, q < k → x + tat b q ≤ rowF x b i f k (i + q)
  | 0, h => absurd h (by omega)
  | k + 1, h => by
    rw [rowF]
    by_cases e : q = k
    · subst e
      rw [if_neg hq]
      show _ ≤ if _ = _ then _ else _
      rw [if_pos rfl]
      omega
    · have h1 := rowF_new (x := x) (i := i) (f := f) hq k (by omega)
      split
      · exact h1
      · show _ ≤ if _ = _ then _ else _
        rw [if_neg (by omega)]
        exact h1
theorem rowF_from {x : Int} {b : List Int} {i : Nat} {f : Nat → Int} (n : Nat) : ∀ k, rowF x b i f k n = f n ∨ ∃ q, q < k ∧ tat b q ≠ -1 ∧ i + q = n ∧ rowF x b i f k n = x + tat b q
  | 0 => .inl rfl
  | k + 1 => by
    have h := rowF_from (x := x) (b := b) (i := i) (f := f) n k
    rw [rowF]
    split
    · rcases h with h | ⟨q, h1, h2⟩
      · exact .inl h
      · exact .inr ⟨q, by omega, h2⟩
    · rename_i hb
      have h3 : ∀ y, (if n = i + k then max (rowF x b i f k (i + k)) (x + tat b k) else rowF x b i f k n) = y → _ := fun y hy => hy
      by_cases e : n = i + k
      · show (if n = i + k then _ else _) = _ ∨ _
        rw [if_pos e]
        by_cases hm : x + tat b k ≤ rowF x b i f k (i + k)
        · rw [Int.max_eq_left hm, ← e]
          rcases h with h | ⟨q, h1, h2⟩
          · exact .inl h
          · refine .inr ⟨q, by omega, h2.1, h2.2.1, ?_⟩
            show (if n = n then _ else _) = _
            rw [if_pos rfl]; exact h2.2.2
        · refine .inr ⟨k, by omega, hb, e.symm, ?_⟩
          show (if n = i + k then _ else _) = _
          rw [if_pos e, Int.max_eq_right (by omega)]
      · rcases h with h | ⟨q, h1, h2⟩
        · refine .inl ?_
          show (if n = i + k then _ else _) = _
          rw [if_neg e]; exact h
        · refine .inr ⟨q, by omega, h2.1, h2.2.1, ?_⟩
          show (if n = i + k then _ else _) = _
          rw [if_neg e]; exact h2.2.2
theorem mergeF_ge {a b : List Int} {p q : Nat} (hp : tat a p ≠ -1) (hq : tat b q ≠ -1) : ∀ i, p < i → tat a p + tat b q ≤ mergeF a b i (p + q)
  | 0, h => absurd h (by omega)
  | i + 1, h => by
    rw [mergeF]
    by_cases e : p = i
    · subst e
      rw [if_neg hp]
      exact rowF_new hq _ (tat_lt hq)
    · have h1 := mergeF_ge hp hq i (by omega)
      split
      · exact h1
      · exact Int.le_trans h1 (rowF_old _ _)
theorem mergeF_from {a b : List Int} (n : Nat) : ∀ i, mergeF a b i n = -1 ∨ ∃ p q, p < i ∧ tat a p ≠ -1 ∧ tat b q ≠ -1 ∧ p + q = n ∧ mergeF a b i n = tat a p + tat b q
  | 0 => .inl rfl
  | i + 1 => by
    have h := mergeF_from (a := a) (b := b) n i
    rw [mergeF]
    split
    · rcases h with h | ⟨p, q, h1, h2⟩
      · exact .inl h
      · exact .inr ⟨p, q, by omega, h2⟩
    · rename_i ha
      rcases rowF_from (x := tat a i) (b := b) (i := i) (f := mergeF a b i) n b.length with e | ⟨q, h1, h2, h3, h4⟩
      · rw [e]
        rcases h with h | ⟨p, q, h1, h2⟩
        · exact .inl h
        · exact .inr ⟨p, q, by omega, h2⟩
      · exact .inr ⟨i, q, by omega, ha, h2, h3, h4⟩
theorem mergeS_len (a b : List Int) : (mergeS a b).length = a.length + b.length - 1 := by simp [mergeS]
theorem mergeS_ge {a b : List Int} {p q : Nat} (hp : tat a p ≠ -1) (hq : tat b q ≠ -1) : tat a p + tat b q ≤ tat (mergeS a b) (p + q) := by
  have h1 := tat_lt hp
  have h2 := tat_lt hq
  rw [mergeS, tat_range (by omega)]
  exact mergeF_ge hp hq _ h1
theorem mergeS_from {a b : List Int} {n : Nat} (h : tat (mergeS a b) n ≠ -1) : ∃ p q, tat a p ≠ -1 ∧ tat b q ≠ -1 ∧ p + q = n ∧ tat (mergeS a b) n = tat a p + tat b q := by
  have hn := tat_lt h
  rw [mergeS_len] at hn
  rw [mergeS, tat_range hn] at h ⊢
  rcases mergeF_from (a := a) (b := b) n a.length with e | ⟨p, q, _, h1, h2, h3, h4⟩
  · exact absurd e h
  · exact ⟨p, q, h1, h2, h3, h4⟩
theorem mergeF_ok {a b : List Int} (ha : Okt a) (hb : Okt b) (i n : Nat) : -1 ≤ mergeF a b i n := by
  rcases mergeF_from (a := a) (b := b) n i with e | ⟨p, q, _, h1, h2, _, h4⟩
  · omega
  · have := ha.nn h1
    have := hb.nn h2
    omega
theorem mergeS_ok {a b : List Int} (ha : Okt a) (hb : Okt b) : Okt (mergeS a b) := by
  intro x hx
  obtain ⟨n, _, rfl⟩ := List.mem_map.1 hx
  exact mergeF_ok ha hb _ _
/-- No entry is greater. -/
def Most (B : Int) (a : List Int) : Prop := ∀ x ∈ a, x ≤ B
theorem Most.at_ {B : Int} {a : List Int} (h : Most B a) (hB : -1 ≤ B) (n : Nat) : tat a n ≤ B := by
  by_cases hn : n < a.length
  · rw [tat_get hn]; exact h _ (List.getElem_mem hn)
  · unfold tat
    rw [List.getD_eq_getElem?_getD, List.getElem?_eq_none (by omega)]
    simpa using hB
theorem mergeF_most {a b : List Int} {A B : Int} (ha : Most A a) (hb : Most B b) (hA : 0 ≤ A) (hB : 0 ≤ B) (i n : Nat) : mergeF a b i n ≤ A + B := by
  rcases mergeF_from (a := a) (b := b) n i with e | ⟨p, q, _, h1, h2, _, h4⟩
  · omega
  · have := ha.at_ (by omega) p
    have := hb.at_ (by omega) q
    omega
theorem mergeS_most {a b : List Int} {A B : Int} (ha : Most A a) (hb : Most B b) (hA : 0 ≤ A) (hB : 0 ≤ B) : Most (A + B) (mergeS a b) := by
  intro x hx
  obtain ⟨n, _, rfl⟩ := List.mem_map.1 hx
  exact mergeF_most ha hb hA hB _ _

/-! ### What a group makes of what comes -/
def needN (mn : Int) : Nat := (max mn 1).toNat
def enF (come : List Int) (mn cents : Int) : Nat → Int
  | 0 => -1
  | j + 1 => if tat come (come.length - (j + 1) + needN mn) ≠ -1 then max (enF come mn cents j) (tat come (come.length - (j + 1) + needN mn) + ((come.length - (j + 1) + needN mn : Nat) : Int) * cents) else enF come mn cents j
def bestAt (come : List Int) (mn cents : Int) (p : Nat) : Int :=
  if enF come mn cents (come.length - p) = -1 then tat come p else max (tat come p) (enF come mn cents (come.length - p) - (p : Int) * cents)
def bestS (come : List Int) (mn cents : Int) : List Int := (List.range come.length).map (bestAt come mn cents)

theorem enF_ge {come : List Int} {mn cents : Int} {n : Nat} (h : tat come n ≠ -1) : ∀ j, j ≤ come.length → come.length - j + needN mn ≤ n → tat come n + (n : Int) * cents ≤ enF come mn cents j
  | 0, _, h1 => absurd (tat_lt h) (by omega)
  | j + 1, hj, h1 => by
    rw [enF]
    by_cases e : come.length - (j + 1) + needN mn = n
    · rw [e, if_pos h]
      omega
    · have h2 := enF_ge (mn := mn) (cents := cents) h j (by omega) (by omega)
      split <;> omega
theorem enF_from {come : List Int} {mn cents : Int} : ∀ j, j ≤ come.length → enF come mn cents j = -1 ∨ ∃ n, come.length - j + needN mn ≤ n ∧ tat come n ≠ -1 ∧ enF come mn cents j = tat come n + (n : Int) * cents
  | 0, _ => .inl rfl
  | j + 1, hj => by
    have h := enF_from (come := come) (mn := mn) (cents := cents) j (by omega)
    rw [enF]
    split
    · rename_i hc
      by_cases hm : tat come (come.length - (j + 1) + needN mn) + ((come.length - (j + 1) + needN mn : Nat) : Int) * cents ≤ enF come mn cents j
      · rw [Int.max_eq_left hm]
        rcases h with h | ⟨n, h1, h2⟩
        · exact .inl h
        · exact .inr ⟨n, by omega, h2⟩
      · rw [Int.max_eq_right (by omega)]
        exact .inr ⟨_, Nat.le_refl _, hc, rfl⟩
    · rcases h with h | ⟨n, h1, h2⟩
      · exact .inl h
      · exact .inr ⟨n, by omega, h2⟩
theorem bestS_len (come : List Int) (mn cents : Int) : (bestS come mn cents).length = come.length := by simp [bestS]
theorem bestS_pass {come : List Int} {mn cents : Int} (p : Nat) : tat come p ≤ tat (bestS come mn cents) p := by
  by_cases h : p < come.length
  · rw [bestS, tat_range h, bestAt]
    split <;> omega
  · rw [bestS, tat_range_ge (by omega)]
    unfold tat
    rw [List.getD_eq_getElem?_getD, List.getElem?_eq_none (by omega)]
    exact Int.le_refl _
theorem enF_ok {come : List Int} (ho : Okt come) {mn cents : Int} (hc : 0 ≤ cents) {j : Nat} (hj : j ≤ come.length) : -1 ≤ enF come mn cents j := by
  rcases enF_from (come := come) (mn := mn) (cents := cents) j hj with e | ⟨n, _, h2, h3⟩
  · omega
  · have h4 := ho.nn h2
    have h5 : 0 ≤ (n : Int) * cents := Int.mul_nonneg (by omega) hc
    omega
theorem bestS_take {come : List Int} (ho : Okt come) {mn cents : Int} (hc : 0 ≤ cents) {p n : Nat} (hn : tat come n ≠ -1) (h : p + needN mn ≤ n) : tat come n + ((n : Int) - p) * cents ≤ tat (bestS come mn cents) p := by
  have h1 := tat_lt hn
  rw [bestS, tat_range (by omega), bestAt]
  have h2 := enF_ge (mn := mn) (cents := cents) hn (come.length - p) (by omega) (by omega)
  have h4 := ho.nn hn
  have h5 : 0 ≤ (n : Int) * cents := Int.mul_nonneg (by omega) hc
  rw [if_neg (by omega), Int.sub_mul]
  omega
theorem bestS_from {come : List Int} (_ : Okt come) {mn cents : Int} (_ : 0 ≤ cents) {p : Nat} (h : tat (bestS come mn cents) p ≠ -1) : ∃ n, tat come n ≠ -1 ∧ (n = p ∨ p + needN mn ≤ n) ∧ tat (bestS come mn cents) p = tat come n + ((n : Int) - p) * cents := by
  have hp := tat_lt h
  rw [bestS_len] at hp
  rw [bestS, tat_range hp, bestAt] at h ⊢
  have own : tat come p ≠ -1 → tat come p = tat come p + ((p : Int) - p) * cents := fun _ => by rw [Int.sub_self, Int.zero_mul]; omega
  split at h
  · rename_i e
    rw [if_pos e]
    exact ⟨p, h, .inl rfl, own h⟩
  · rename_i e
    rw [if_neg e]
    rcases enF_from (come := come) (mn := mn) (cents := cents) (come.length - p) (by omega) with e' | ⟨n, h1, h2, h3⟩
    · exact absurd e' e
    · by_cases hm : enF come mn cents (come.length - p) - (p : Int) * cents ≤ tat come p
      · rw [Int.max_eq_left hm] at h ⊢
        exact ⟨p, h, .inl rfl, own h⟩
      · rw [Int.max_eq_right (by omega)]
        refine ⟨n, h2, .inr (by omega), ?_⟩
        rw [h3, Int.sub_mul]
        omega
theorem bestS_ok {come : List Int} (ho : Okt come) (mn cents : Int) : Okt (bestS come mn cents) := by
  intro x hx
  obtain ⟨n, _, rfl⟩ := List.mem_map.1 hx
  have := ho.ge n
  rw [bestAt]
  split <;> omega
theorem bestS_most {come : List Int} {B : Int} (h : Most B come) (ho : Okt come) (hB : 0 ≤ B) {mn cents : Int} (hc : 0 ≤ cents) {C : Int} (hC : cents ≤ C) : Most (B + (come.length - 1 : Nat) * C) (bestS come mn cents) := by
  intro x hx
  obtain ⟨p, hp, rfl⟩ := List.getElem_of_mem hx
  rw [← tat_get hp]
  by_cases hn : tat (bestS come mn cents) p = -1
  · rw [hn]
    have : 0 ≤ ((come.length - 1 : Nat) : Int) * C := Int.mul_nonneg (by omega) (by omega)
    omega
  · obtain ⟨n, h1, h2, h3⟩ := bestS_from ho hc hn
    rw [h3]
    have h4 := h.at_ (by omega) n
    have h5 := tat_lt h1
    have h6 : ((n : Int) - p) * cents ≤ (come.length - 1 : Nat) * C := by
      refine Int.le_trans (Int.mul_le_mul_of_nonneg_right (show (n : Int) - p ≤ (come.length - 1 : Nat) by omega) hc) (Int.mul_le_mul_of_nonneg_left hC (by omega))
    omega

/-! ### Many tables together -/
def restS : List (List Int) → List (List Int)
  | [] => [[0]]
  | b :: r => mergeS b ((restS r).headD []) :: restS r
def comeS (bs : List (List Int)) : List Int := (restS bs).headD []
theorem restS_cons (b : List Int) (r : List (List Int)) : restS (b :: r) = mergeS b (comeS r) :: restS r := rfl
theorem restS_len : ∀ bs, (restS bs).length = bs.length + 1
  | [] => rfl
  | _ :: r => by rw [restS_cons, List.length_cons, restS_len r, List.length_cons]
theorem comeS_nil : comeS [] = [0] := rfl
theorem comeS_cons (b : List Int) (r : List (List Int)) : comeS (b :: r) = mergeS b (comeS r) := rfl
theorem restS_at : ∀ (bs : List (List Int)) (k : Nat) (h : k < (restS bs).length), (restS bs)[k] = comeS (bs.drop k)
  | [], 0, _ => rfl
  | [], k + 1, h => absurd h (by simp [restS])
  | b :: r, 0, _ => rfl
  | b :: r, k + 1, h => by
    have h' : k < (restS r).length := by rw [restS_cons] at h; simpa using h
    have := restS_at r k h'
    simpa [restS_cons] using this
theorem comeS_ok : ∀ {bs : List (List Int)}, (∀ b ∈ bs, Okt b) → Okt (comeS bs)
  | [], _ => by intro x hx; rw [comeS_nil] at hx; simp at hx; omega
  | b :: r, h => by
    rw [comeS_cons]
    exact mergeS_ok (h b List.mem_cons_self) (comeS_ok fun c hc => h c (List.mem_cons_of_mem _ hc))
theorem comeS_pos : ∀ {bs : List (List Int)}, (∀ b ∈ bs, 0 < b.length) → 0 < (comeS bs).length
  | [], _ => by simp [comeS_nil]
  | b :: r, h => by
    rw [comeS_cons, mergeS_len]
    have := h b List.mem_cons_self
    have := comeS_pos (bs := r) fun c hc => h c (List.mem_cons_of_mem _ hc)
    omega
end LB
namespace LB

/-- What a group that passes on p of its pieces saves itself, if so many come; -1 where it can't. -/
def saveG (p : Nat) (mn cents : Int) (come : Int) : Int := if come - p < 0 ∨ (0 < come - p ∧ come - p < mn) then -1 else (come - p) * cents
def canA (p0 : Nat) (mn cents target : Int) (rest : List Int) (s : Nat) (v : Int) (n : Nat) : Bool :=
  decide (tat rest n ≠ -1) && (decide (saveG p0 mn cents ((s + n : Nat) : Int) ≠ -1) && decide (v + tat rest n + saveG p0 mn cents ((s + n : Nat) : Int) = target))
def canP (p0 : Nat) (mn cents target : Int) (b rest : List Int) (sum : Nat) (saved : Int) (p : Nat) : Bool :=
  decide (tat b p ≠ -1) && (List.range rest.length).any (canA p0 mn cents target rest (sum + p) (saved + tat b p))
def leastP (p0 : Nat) (mn cents target : Int) (b rest : List Int) (sum : Nat) (saved : Int) : Nat :=
  ((List.range b.length).find? (canP p0 mn cents target b rest sum saved)).getD 0
def shareF (p0 : Nat) (mn cents target : Int) (bt : Nat → List Int) : List Nat → Nat → Int → (Nat → Nat) → Nat → Nat
  | [], _, _, P => P
  | c :: r, sum, saved, P =>
    let p := leastP p0 mn cents target (bt c) (comeS (r.map bt)) sum saved
    shareF p0 mn cents target bt r (sum + p) (saved + tat (bt c) p) (fun x => if x = c then p else P x)
/-- What is wanted can still be had. -/
def Can (p0 : Nat) (mn cents target : Int) (bs : List (List Int)) (sum : Nat) (saved : Int) : Prop :=
  ∃ n, canA p0 mn cents target (comeS bs) sum saved n = true
theorem canA_iff {p0 : Nat} {mn cents target : Int} {rest : List Int} {s : Nat} {v : Int} {n : Nat} : canA p0 mn cents target rest s v n = true ↔ tat rest n ≠ -1 ∧ saveG p0 mn cents ((s + n : Nat) : Int) ≠ -1 ∧ v + tat rest n + saveG p0 mn cents ((s + n : Nat) : Int) = target := by
  unfold canA
  simp only [Bool.and_eq_true, decide_eq_true_eq]
theorem canP_iff {p0 : Nat} {mn cents target : Int} {b rest : List Int} {sum : Nat} {saved : Int} {p : Nat} : canP p0 mn cents target b rest sum saved p = true ↔ tat b p ≠ -1 ∧ ∃ n, canA p0 mn cents target rest (sum + p) (saved + tat b p) n = true := by
  unfold canP
  rw [Bool.and_eq_true, decide_eq_true_eq, List.any_eq_true]
  constructor
  · rintro ⟨h1, n, _, h2⟩
    exact ⟨h1, n, h2⟩
  · rintro ⟨h1, n, h2⟩
    exact ⟨h1, n, List.mem_range.2 (tat_lt (canA_iff.1 h2).1), h2⟩
theorem can_some {p0 : Nat} {mn cents target : Int} {b : List Int} {r : List (List Int)} {sum : Nat} {saved : Int} (h : Can p0 mn cents target (b :: r) sum saved) : ∃ p, canP p0 mn cents target b (comeS r) sum saved p = true := by
  obtain ⟨n, hn⟩ := h
  obtain ⟨h1, h2, h3⟩ := canA_iff.1 hn
  rw [comeS_cons] at h1 h3
  obtain ⟨p, q, e1, e2, e3, e4⟩ := mergeS_from h1
  refine ⟨p, canP_iff.2 ⟨e1, q, canA_iff.2 ⟨e2, ?_, ?_⟩⟩⟩
  · rw [show sum + p + q = sum + n from by omega]; exact h2
  · rw [show sum + p + q = sum + n from by omega, ← h3, e4]; omega
theorem leastP_spec {p0 : Nat} {mn cents target : Int} {b rest : List Int} {sum : Nat} {saved : Int} (h : ∃ p, canP p0 mn cents target b rest sum saved p = true) :
    canP p0 mn cents target b rest sum saved (leastP p0 mn cents target b rest sum saved) = true ∧ ∀ q, q < leastP p0 mn cents target b rest sum saved → canP p0 mn cents target b rest sum saved q = false := by
  obtain ⟨p, hp⟩ := h
  unfold leastP
  cases hf : (List.range b.length).find? (canP p0 mn cents target b rest sum saved) with
  | none =>
    rw [List.find?_eq_none] at hf
    exact absurd hp (hf p (List.mem_range.2 (tat_lt (canP_iff.1 hp).1)))
  | some x =>
    rw [List.find?_range_eq_some] at hf
    obtain ⟨h1, _, h3⟩ := hf
    exact ⟨h1, fun q hq => by simpa using h3 q hq⟩
theorem leastP_can {p0 : Nat} {mn cents target : Int} {b : List Int} {r : List (List Int)} {sum : Nat} {saved : Int} (h : Can p0 mn cents target (b :: r) sum saved) :
    tat b (leastP p0 mn cents target b (comeS r) sum saved) ≠ -1 ∧ Can p0 mn cents target r (sum + leastP p0 mn cents target b (comeS r) sum saved) (saved + tat b (leastP p0 mn cents target b (comeS r) sum saved)) := by
  obtain ⟨h1, h2⟩ := canP_iff.1 (leastP_spec (can_some h)).1
  exact ⟨h1, h2⟩
theorem saveG_ne {p : Nat} {mn cents come : Int} (hc : 0 ≤ cents) : saveG p mn cents come ≠ -1 ↔ (p : Int) ≤ come ∧ (come = p ∨ mn ≤ come - p) := by
  unfold saveG
  split
  · constructor
    · intro h; exact absurd rfl h
    · intro h; omega
  · rename_i h
    have := Int.mul_nonneg (show 0 ≤ come - p by omega) hc
    constructor
    · intro _; omega
    · intro _; omega
theorem saveG_eq {p : Nat} {mn cents come : Int} (h : saveG p mn cents come ≠ -1) : saveG p mn cents come = (come - p) * cents := by
  unfold saveG at h ⊢
  split at h
  · exact absurd rfl h
  · rename_i h'
    rw [if_neg h']
/-- At the beginning what a group saves at most can be had. -/
theorem can_start {bs : List (List Int)} {mn cents : Int} (ho : Okt (comeS bs)) (hc : 0 ≤ cents) {p : Nat} (h : tat (bestS (comeS bs) mn cents) p ≠ -1) : Can p mn cents (tat (bestS (comeS bs) mn cents) p) bs 0 0 := by
  obtain ⟨n, h1, h2, h3⟩ := bestS_from ho hc h
  have hs : saveG p mn cents ((0 + n : Nat) : Int) ≠ -1 := by
    rw [saveG_ne hc]
    unfold needN at h2
    omega
  refine ⟨n, canA_iff.2 ⟨h1, hs, ?_⟩⟩
  rw [saveG_eq hs, h3]
  simp
/-! ### What the walk over the subgroups leaves -/
def sumOf (f : Nat → Nat) : List Nat → Nat
  | [] => 0
  | c :: r => f c + sumOf f r
theorem sumOf_congr {f g : Nat → Nat} : ∀ {l : List Nat}, (∀ c ∈ l, f c = g c) → sumOf f l = sumOf g l
  | [], _ => rfl
  | c :: r, h => by rw [sumOf, sumOf, h c List.mem_cons_self, sumOf_congr fun d hd => h d (List.mem_cons_of_mem _ hd)]
theorem shareF_other {p0 : Nat} {mn cents target : Int} {bt : Nat → List Int} : ∀ {l : List Nat} {sum : Nat} {saved : Int} {P : Nat → Nat} {x : Nat}, x ∉ l → shareF p0 mn cents target bt l sum saved P x = P x
  | [], _, _, _, _, _ => rfl
  | c :: r, sum, saved, P, x, h => by
    rw [shareF]
    rw [shareF_other (fun hx => h (List.mem_cons_of_mem _ hx)), if_neg (fun e => h (by rw [e]; exact List.mem_cons_self))]
/-- The subgroups pass on what they can; what they pass on together, the group takes or passes on. -/
theorem shareF_spec {p0 : Nat} {mn cents target : Int} {bt : Nat → List Int} : ∀ {l : List Nat} {sum : Nat} {saved : Int} {P : Nat → Nat}, l.Nodup → Can p0 mn cents target (l.map bt) sum saved →
    (∀ c ∈ l, tat (bt c) (shareF p0 mn cents target bt l sum saved P c) ≠ -1) ∧ saveG p0 mn cents ((sum + sumOf (shareF p0 mn cents target bt l sum saved P) l : Nat) : Int) ≠ -1
  | [], sum, saved, P, _, h => by
    obtain ⟨n, hn⟩ := h
    obtain ⟨h1, h2, _⟩ := canA_iff.1 hn
    refine ⟨fun c hc => (by cases hc), ?_⟩
    have : n = 0 := by
      have := tat_lt h1
      simp [comeS_nil] at this
      exact this
    subst this
    rw [sumOf]
    exact h2
  | c :: r, sum, saved, P, hd, h => by
    obtain ⟨hd1, hd2⟩ := List.nodup_cons.1 hd
    rw [List.map_cons] at h
    obtain ⟨h1, h2⟩ := leastP_can h
    have ih := shareF_spec (P := fun x => if x = c then leastP p0 mn cents target (bt c) (comeS (r.map bt)) sum saved else P x) hd2 h2
    have hself : shareF p0 mn cents target bt (c :: r) sum saved P c = leastP p0 mn cents target (bt c) (comeS (r.map bt)) sum saved := by
      rw [shareF]
      rw [shareF_other hd1, if_pos rfl]
    refine ⟨fun d hdm => ?_, ?_⟩
    · rcases List.mem_cons.1 hdm with rfl | hdr
      · rw [hself]; exact h1
      · exact ih.1 d hdr
    · rw [sumOf, hself, ← Nat.add_assoc]
      exact ih.2
end LB
