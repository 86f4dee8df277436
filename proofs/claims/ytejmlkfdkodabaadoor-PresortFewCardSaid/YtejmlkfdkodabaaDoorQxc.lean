/- Texts of one proof put together. What plans save at most; the plan that groups give saves just that; no piece is passed on without need. Plain Lean, with no program in sight. The kinds of the structs: what the cells of a value say, read and made. Written by gen_kinds.py. Small lemmas that the walks share: lists cut at a round, facts kept from the walk, results, loads behind new blocks. The reference's functions on schemes (chapter 23): each returns what the plain words say. -/
import Derived.Test.YtejmlkfdkodabaaDoorQxb
import Derived.Test.YtejmlkfdkodabaaDoorQxa
import Derived.Test.YtejmlkfdkodabaaDoorWWords
import Derived.WalkKit
import Derived.WalkLawsBesides
import Derived.WalkSpells
import Derived.LoopTactic
import Derived.Deep.QuietTactic
import Derived.BigQuiet
import Derived.Outline
import Derived.Test.YtejmlkfdkodabaaDoorProg
import Derived.LoopN
namespace LB

def totF (f : Nat → Int) : Nat → Int
  | 0 => 0
  | n + 1 => totF f n + f n
def sumI (f : Nat → Int) : List Nat → Int
  | [] => 0
  | c :: r => f c + sumI f r
theorem totF_congr {f g : Nat → Int} : ∀ {n : Nat}, (∀ k, k < n → f k = g k) → totF f n = totF g n
  | 0, _ => rfl
  | n + 1, h => by rw [totF, totF, totF_congr (fun k hk => h k (by omega)), h n (by omega)]
theorem totF_add (f g : Nat → Int) : ∀ n, totF (fun k => f k + g k) n = totF f n + totF g n
  | 0 => rfl
  | n + 1 => by rw [totF, totF_add f g n, totF, totF]; omega
theorem totF_zero : ∀ n, totF (fun _ => 0) n = 0
  | 0 => rfl
  | n + 1 => by rw [totF, totF_zero n]; rfl
theorem totF_le {f g : Nat → Int} : ∀ {n : Nat}, (∀ k, k < n → f k ≤ g k) → totF f n ≤ totF g n
  | 0, _ => Int.le_refl _
  | n + 1, h => by
    have h1 := totF_le (n := n) fun k hk => h k (by omega)
    have h2 := h n (by omega)
    rw [totF, totF]
    omega
theorem totF_const (a : Int) : ∀ n : Nat, totF (fun _ => a) n = n * a
  | 0 => by simp [totF]
  | n + 1 => by rw [totF, totF_const a n, Int.natCast_succ, Int.add_mul]; omega
theorem tot_count {p : Nat → Bool} {a : Int} : ∀ n, totF (fun k => if p k = true then a else 0) n = ((List.range n).countP p : Nat) * a
  | 0 => by simp [totF]
  | n + 1 => by
    rw [totF, tot_count n, List.range_succ, List.countP_append, List.countP_singleton]
    cases p n
    · simp
    · simp only [if_true, Int.natCast_add, Int.add_mul]; simp
theorem sumI_congr {f g : Nat → Int} : ∀ {l : List Nat}, (∀ c ∈ l, f c = g c) → sumI f l = sumI g l
  | [], _ => rfl
  | c :: r, h => by rw [sumI, sumI, h c List.mem_cons_self, sumI_congr fun d hd => h d (List.mem_cons_of_mem _ hd)]
theorem sumI_add (f g : Nat → Int) : ∀ l : List Nat, sumI (fun c => f c + g c) l = sumI f l + sumI g l
  | [] => rfl
  | c :: r => by rw [sumI, sumI_add f g r, sumI, sumI]; omega
theorem sumI_zero : ∀ {l : List Nat} {f : Nat → Int}, (∀ c ∈ l, f c = 0) → sumI f l = 0
  | [], _, _ => rfl
  | c :: r, f, h => by rw [sumI, h c List.mem_cons_self, sumI_zero fun d hd => h d (List.mem_cons_of_mem _ hd)]; rfl
theorem sumI_le {f g : Nat → Int} : ∀ {l : List Nat}, (∀ c ∈ l, f c ≤ g c) → sumI f l ≤ sumI g l
  | [], _ => Int.le_refl _
  | c :: r, h => by
    have h1 := h c List.mem_cons_self
    have h2 := sumI_le (l := r) fun d hd => h d (List.mem_cons_of_mem _ hd)
    rw [sumI, sumI]
    omega
theorem sumI_one {x : Nat} {a : Int} : ∀ {l : List Nat}, l.Nodup → sumI (fun c => if x = c then a else 0) l = if x ∈ l then a else 0
  | [], _ => by simp [sumI]
  | c :: r, h => by
    obtain ⟨h1, h2⟩ := List.nodup_cons.1 h
    rw [sumI, sumI_one h2]
    by_cases e : x = c
    · subst e
      simp [h1]
    · simp [e]
theorem countP_two {α : Type} {p q r : α → Bool} (h : ∀ x, p x = (q x || r x)) (h' : ∀ x, (q x && r x) = false) : ∀ l : List α, l.countP p = l.countP q + l.countP r
  | [] => rfl
  | x :: t => by
    rw [List.countP_cons, List.countP_cons, List.countP_cons, countP_two h h' t, h x]
    have := h' x
    cases hq : q x <;> cases hr : r x
    · simp
    · simp; omega
    · simp; omega
    · rw [hq, hr] at this; cases this
theorem countP_two' {α : Type} {p q r : α → Bool} : ∀ {l : List α}, (∀ x ∈ l, p x = (q x || r x)) → (∀ x ∈ l, (q x && r x) = false) → l.countP p = l.countP q + l.countP r
  | [], _, _ => rfl
  | x :: t, h, h' => by
    rw [List.countP_cons, List.countP_cons, List.countP_cons, countP_two' (fun y hy => h y (List.mem_cons_of_mem _ hy)) (fun y hy => h' y (List.mem_cons_of_mem _ hy)), h x List.mem_cons_self]
    have := h' x List.mem_cons_self
    cases hq : q x <;> cases hr : r x
    · simp
    · simp; omega
    · simp; omega
    · rw [hq, hr] at this; cases this

/-! ### A plan, group by group -/
def takeN (idx : Nat → Nat → Nat) (m : Nat) (pl : Nat → Int) (l i : Nat) : Nat := (List.range m).countP fun k => idx l k == i && pl k == (l : Int)
def pastN (idx : Nat → Nat → Nat) (m : Nat) (pl : Nat → Int) (l i : Nat) : Nat := (List.range m).countP fun k => idx l k == i && decide ((l : Int) < pl k)
def arrN (idx : Nat → Nat → Nat) (m : Nat) (pl : Nat → Int) (l i : Nat) : Nat := (List.range m).countP fun k => idx l k == i && decide ((l : Int) ≤ pl k)
def subW (ls : List Level) (idx : Nat → Nat → Nat) (m : Nat) (pl : Nat → Int) (l i : Nat) : Int := totF (fun k => if idx l k = i then (if pl k ≤ (l : Int) then centsAt ls (pl k) else 0) else 0) m
structure PlOk (ls : List Level) (m : Nat) (idx : Nat → Nat → Nat) (pl : Nat → Int) : Prop where
  nn : ∀ k, k < m → 0 ≤ pl k ∧ pl k < ls.length
  ok : ∀ l k, l < ls.length → k < m → takeN idx m pl l (idx l k) = 0 ∨ minAt ls ((l : Nat) : Int) ≤ (takeN idx m pl l (idx l k) : Nat)
theorem arr_split (idx : Nat → Nat → Nat) (m : Nat) (pl : Nat → Int) (l i : Nat) : arrN idx m pl l i = takeN idx m pl l i + pastN idx m pl l i := by
  unfold arrN takeN pastN
  refine countP_two (fun k => ?_) (fun k => ?_) _
  · rw [Bool.eq_iff_iff]
    simp only [Bool.and_eq_true, Bool.or_eq_true, decide_eq_true_eq, beq_iff_eq]
    omega
  · rw [← Bool.not_eq_true]
    simp only [Bool.and_eq_true, decide_eq_true_eq, beq_iff_eq]
    omega
theorem come_ge {bt : Nat → List Int} {q : Nat → Nat} : ∀ {l : List Nat}, (∀ c ∈ l, Okt (bt c)) → (∀ c ∈ l, tat (bt c) (q c) ≠ -1) → tat (comeS (l.map bt)) (sumOf q l) ≠ -1 ∧ sumI (fun c => tat (bt c) (q c)) l ≤ tat (comeS (l.map bt)) (sumOf q l)
  | [], _, _ => by
    show tat [0] 0 ≠ -1 ∧ (0 : Int) ≤ tat [0] 0
    simp [tat]
  | c :: r, ho, hq => by
    obtain ⟨h1, h2⟩ := come_ge (l := r) (fun d hd => ho d (List.mem_cons_of_mem _ hd)) (fun d hd => hq d (List.mem_cons_of_mem _ hd))
    have h3 := hq c List.mem_cons_self
    have h4 := mergeS_ge h3 h1
    have h5 := (ho c List.mem_cons_self).nn h3
    have h6 : Okt (comeS (r.map bt)) := comeS_ok fun b hb => by
      obtain ⟨d, hd, rfl⟩ := List.mem_map.1 hb
      exact ho d (List.mem_cons_of_mem _ hd)
    have h7 := h6.nn h1
    rw [List.map_cons, comeS_cons, sumOf, sumI]
    omega
theorem own_last (n : Nat) : tat (ownT n) n = 0 := by
  rw [tat_get (by simp [ownT])]
  simp [ownT]
section
variable {ls : List Level} {gs : List Group} {m L : Nat} {idx : Nat → Nat → Nat}
theorem GSat.wsum (G : GSat 0 0 gs m L idx) {l i : Nat} (hl : l + 1 < L) (f : Nat → Int) :
    sumI (fun c => totF (fun k => if idx l k = c then f k else 0) m) (subsS gs i) = totF (fun k => if idx (l + 1) k = i then f k else 0) m := by
  have key : ∀ n, n ≤ m → sumI (fun c => totF (fun k => if idx l k = c then f k else 0) n) (subsS gs i) = totF (fun k => if idx (l + 1) k = i then f k else 0) n := by
    intro n hn
    induction n with
    | zero => exact sumI_zero fun _ _ => rfl
    | succ n ih =>
      have e1 : ∀ c, totF (fun k => if idx l k = c then f k else 0) (n + 1) = totF (fun k => if idx l k = c then f k else 0) n + (if idx l n = c then f n else 0) := fun c => rfl
      rw [sumI_congr (fun c _ => e1 c), sumI_add, ih (by omega), sumI_one (subs_nodup gs i), totF]
      have h1 : idx l n ∈ subsS gs i ↔ idx (l + 1) n = i := by
        rw [subs_mem, G.up hl (show n < m by omega)]
        constructor
        · rintro ⟨_, h⟩; omega
        · intro h; exact ⟨G.lt (by omega) (by omega), by omega⟩
      simp only [h1]
  exact key m (Nat.le_refl _)
theorem GSat.lvl (G : GSat 0 0 gs m L idx) {l k : Nat} (hl : l < L) (hk : k < m) : (gAt gs (idx l k)).level = ((l : Nat) : Int) := by rw [G.lev hl hk]; omega
theorem GSat.sub_at (G : GSat 0 0 gs m L idx) {l k c : Nat} (hl : l + 1 < L) (hk : k < m) (h : c ∈ subsS gs (idx (l + 1) k)) : ∃ k', k' < m ∧ idx l k' = c := by
  obtain ⟨_, _, _, l2, k2, q1, q2, q3, q4⟩ := G.sub h
  have e := G.same q1 hl q2 hk q4
  have : l2 = l := by omega
  subst this
  exact ⟨k2, q2, q3⟩
theorem arr_low (G : GSat 0 0 gs m L idx) {k : Nat} (hL : 0 < L) (hk : k < m) {pl : Nat → Int} (hp : ∀ k, k < m → 0 ≤ pl k) : arrN idx m pl 0 (idx 0 k) = (gAt gs (idx 0 k)).items.length := by
  rw [G.size (G.lt hL hk) (G.lvl hL hk)]
  unfold arrN
  refine List.countP_congr fun j hj => ?_
  have hj := List.mem_range.1 hj
  have := hp j hj
  simp only [Bool.and_eq_true, beq_iff_eq, decide_eq_true_eq]
  constructor
  · intro h; exact h.1
  · intro h; exact ⟨h, by omega⟩
theorem arr_up (G : GSat 0 0 gs m L idx) {l k : Nat} (hl : l + 1 < L) (hk : k < m) (pl : Nat → Int) : arrN idx m pl (l + 1) (idx (l + 1) k) = sumOf (pastN idx m pl l) (subsS gs (idx (l + 1) k)) := by
  have h := G.count hl (G.lvl hl hk) fun k => decide ((l : Int) < pl k)
  unfold pastN
  rw [h]
  unfold arrN
  refine List.countP_congr fun j _ => ?_
  simp only [Bool.and_eq_true, beq_iff_eq, decide_eq_true_eq]
  omega
theorem take_tot (idx : Nat → Nat → Nat) (m : Nat) (pl : Nat → Int) (l i : Nat) (a : Int) : totF (fun k => if idx l k = i then (if pl k = (l : Int) then a else 0) else 0) m = (takeN idx m pl l i : Nat) * a := by
  unfold takeN
  rw [← tot_count]
  refine totF_congr fun k _ => ?_
  by_cases h1 : idx l k = i <;> by_cases h2 : pl k = (l : Int) <;> simp [h1, h2]
theorem subW_low {pl : Nat → Int} (hp : ∀ k, k < m → 0 ≤ pl k) (i : Nat) : subW ls idx m pl 0 i = (takeN idx m pl 0 i : Nat) * centsAt ls ((0 : Nat) : Int) := by
  rw [← take_tot]
  unfold subW
  refine totF_congr fun k hk => ?_
  have := hp k hk
  by_cases h : idx 0 k = i
  · rw [if_pos h, if_pos h]
    by_cases h2 : pl k = ((0 : Nat) : Int)
    · rw [if_pos h2, if_pos (by omega), h2]
    · rw [if_neg h2, if_neg (by omega)]
  · rw [if_neg h, if_neg h]
theorem subW_up (G : GSat 0 0 gs m L idx) {l i : Nat} (hl : l + 1 < L) (pl : Nat → Int) : subW ls idx m pl (l + 1) i = sumI (subW ls idx m pl l) (subsS gs i) + (takeN idx m pl (l + 1) i : Nat) * centsAt ls ((l + 1 : Nat) : Int) := by
  have h := G.wsum (i := i) hl fun k => if pl k ≤ (l : Int) then centsAt ls (pl k) else 0
  have e : sumI (subW ls idx m pl l) (subsS gs i) = totF (fun k => if idx (l + 1) k = i then (if pl k ≤ (l : Int) then centsAt ls (pl k) else 0) else 0) m := h
  rw [e, ← take_tot, ← totF_add]
  unfold subW
  refine totF_congr fun k hk => ?_
  by_cases h : idx (l + 1) k = i
  · rw [if_pos h, if_pos h, if_pos h]
    by_cases h2 : pl k = ((l + 1 : Nat) : Int)
    · rw [if_pos h2, if_pos (by omega), if_neg (by omega), h2]; omega
    · rw [if_neg h2]
      by_cases h3 : pl k ≤ (l : Int)
      · rw [if_pos h3, if_pos (by omega)]; omega
      · rw [if_neg h3, if_neg (by omega)]; rfl
  · rw [if_neg h, if_neg h, if_neg h]; rfl
theorem best_okt (G : GSat 0 0 gs m ls.length idx) (hl : LvOk ls) {c : Nat} (hc : c < gs.length) : Okt (bestT ls gs c) := by
  obtain ⟨l, _, e⟩ := G.level hc
  exact (tables_ok G hl hc e).2.ok
/-- No valid plan saves more in a group and its subgroups than the table says. -/
theorem opt_le (G : GSat 0 0 gs m ls.length idx) (hl : LvOk ls) {pl : Nat → Int} (h : PlOk ls m idx pl) : ∀ l k, l < ls.length → k < m →
    tat (bestT ls gs (idx l k)) (pastN idx m pl l (idx l k)) ≠ -1 ∧ subW ls idx m pl l (idx l k) ≤ tat (bestT ls gs (idx l k)) (pastN idx m pl l (idx l k)) := by
  intro l
  induction l with
  | zero =>
    intro k hL hk
    have hi := G.lt hL hk
    have hlv := G.lvl hL hk
    have ha := arr_low G hL hk (pl := pl) fun k hk => (h.nn k hk).1
    have hs := arr_split idx m pl 0 (idx 0 k)
    have hc := comeT_low (ls := ls) (gs := gs) (i := idx 0 k) (by rw [hlv]; rfl)
    have hB := bestT_eq (ls := ls) G hi
    have h0 : tat (comeT ls gs (idx 0 k)) (arrN idx m pl 0 (idx 0 k)) = 0 := by rw [hc, ha, own_last]
    have hok := (tables_ok G hl hi hlv).1.ok
    have hW := subW_low (ls := ls) (idx := idx) (pl := pl) (fun k hk => (h.nn k hk).1) (idx 0 k)
    have hcc := (hl.cents ((0 : Nat) : Int)).1
    have hcv : comeI gs (bestsS ls gs gs.length) (idx 0 k) = comeT ls gs (idx 0 k) := rfl
    rw [hlv, hcv] at hB
    rw [hB, hW]
    rcases h.ok 0 k hL hk with e | e
    · have h1 := bestS_pass (come := comeT ls gs (idx 0 k)) (mn := minAt ls ((0 : Nat) : Int)) (cents := centsAt ls ((0 : Nat) : Int)) (arrN idx m pl 0 (idx 0 k))
      rw [h0, hs, e, Nat.zero_add] at h1
      have e9 : ((takeN idx m pl 0 (idx 0 k) : Nat) : Int) * centsAt ls ((0 : Nat) : Int) = 0 := by rw [e]; exact Int.zero_mul _
      rw [e9]
      omega
    · by_cases e0 : takeN idx m pl 0 (idx 0 k) = 0
      · have h1 := bestS_pass (come := comeT ls gs (idx 0 k)) (mn := minAt ls ((0 : Nat) : Int)) (cents := centsAt ls ((0 : Nat) : Int)) (arrN idx m pl 0 (idx 0 k))
        rw [h0, hs, e0, Nat.zero_add] at h1
        have e9 : ((takeN idx m pl 0 (idx 0 k) : Nat) : Int) * centsAt ls ((0 : Nat) : Int) = 0 := by rw [e0]; exact Int.zero_mul _
        rw [e9]
        omega
      · have h1 := bestS_take (mn := minAt ls ((0 : Nat) : Int)) hok hcc (p := pastN idx m pl 0 (idx 0 k)) (n := arrN idx m pl 0 (idx 0 k)) (by rw [h0]; decide) (by unfold needN; omega)
        rw [h0] at h1
        have e2 : ((arrN idx m pl 0 (idx 0 k) : Nat) : Int) - (pastN idx m pl 0 (idx 0 k) : Nat) = (takeN idx m pl 0 (idx 0 k) : Nat) := by omega
        rw [e2] at h1
        have h5 := Int.mul_nonneg (show 0 ≤ ((takeN idx m pl 0 (idx 0 k) : Nat) : Int) by omega) hcc
        omega
  | succ l ih =>
    intro k hL hk
    have hi := G.lt hL hk
    have hlv := G.lvl hL hk
    have ha := arr_up G hL hk pl
    have hs := arr_split idx m pl (l + 1) (idx (l + 1) k)
    have hc := comeT_up (ls := ls) (gs := gs) (i := idx (l + 1) k) (by rw [hlv]; omega)
    have hB := bestT_eq (ls := ls) G hi
    have hok := (tables_ok G hl hi hlv).1.ok
    have hsub : ∀ c ∈ subsS gs (idx (l + 1) k), tat (bestT ls gs c) (pastN idx m pl l c) ≠ -1 ∧ subW ls idx m pl l c ≤ tat (bestT ls gs c) (pastN idx m pl l c) := fun c hcm => by
      obtain ⟨k', hk', rfl⟩ := G.sub_at hL hk hcm
      exact ih k' (by omega) hk'
    obtain ⟨g1, g2⟩ := come_ge (bt := bestT ls gs) (q := pastN idx m pl l) (l := subsS gs (idx (l + 1) k)) (fun c hcm => best_okt G hl (subs_mem.1 hcm).1) (fun c hcm => (hsub c hcm).1)
    have g3 := sumI_le (l := subsS gs (idx (l + 1) k)) fun c hcm => (hsub c hcm).2
    rw [← hc, ← ha] at g1 g2
    have hW := subW_up (ls := ls) G (i := idx (l + 1) k) hL pl
    have hcc := (hl.cents ((l + 1 : Nat) : Int)).1
    have hcv : comeI gs (bestsS ls gs gs.length) (idx (l + 1) k) = comeT ls gs (idx (l + 1) k) := rfl
    rw [hlv, hcv] at hB
    rw [hB, hW]
    have g4 := hok.nn g1
    by_cases e0 : takeN idx m pl (l + 1) (idx (l + 1) k) = 0
    · have h1 := bestS_pass (come := comeT ls gs (idx (l + 1) k)) (mn := minAt ls ((l + 1 : Nat) : Int)) (cents := centsAt ls ((l + 1 : Nat) : Int)) (arrN idx m pl (l + 1) (idx (l + 1) k))
      have e2 : arrN idx m pl (l + 1) (idx (l + 1) k) = pastN idx m pl (l + 1) (idx (l + 1) k) := by omega
      rw [e2] at h1 g1 g2 g4
      rw [e0]
      simp only [Int.natCast_zero, Int.zero_mul, Int.add_zero]
      omega
    · have h0 := h.ok (l + 1) k hL hk
      have h1 := bestS_take (mn := minAt ls ((l + 1 : Nat) : Int)) hok hcc (p := pastN idx m pl (l + 1) (idx (l + 1) k)) (n := arrN idx m pl (l + 1) (idx (l + 1) k)) g1 (by unfold needN; omega)
      have e2 : ((arrN idx m pl (l + 1) (idx (l + 1) k) : Nat) : Int) - (pastN idx m pl (l + 1) (idx (l + 1) k) : Nat) = (takeN idx m pl (l + 1) (idx (l + 1) k) : Nat) := by omega
      rw [e2] at h1
      have h5 := Int.mul_nonneg (show 0 ≤ ((takeN idx m pl (l + 1) (idx (l + 1) k) : Nat) : Int) by omega) hcc
      omega
end

/-! ### What is shared out saves what the table says; with fewer passed on it would be less -/
theorem shareF_exact {p0 : Nat} {mn cents target : Int} {bt : Nat → List Int} : ∀ {l : List Nat} {sum : Nat} {saved : Int} {P : Nat → Nat}, l.Nodup → Can p0 mn cents target (l.map bt) sum saved →
    saved + sumI (fun c => tat (bt c) (shareF p0 mn cents target bt l sum saved P c)) l + saveG p0 mn cents ((sum + sumOf (shareF p0 mn cents target bt l sum saved P) l : Nat) : Int) = target
  | [], sum, saved, P, _, h => by
    obtain ⟨n, hn⟩ := h
    obtain ⟨h1, h2, h3⟩ := canA_iff.1 hn
    have : n = 0 := by
      have := tat_lt h1
      simp [comeS_nil] at this
      exact this
    subst this
    have h4 : tat (comeS (List.map bt [])) 0 = 0 := rfl
    rw [h4] at h3
    rw [sumI, sumOf]
    exact h3
  | c :: r, sum, saved, P, hd, h => by
    obtain ⟨hd1, hd2⟩ := List.nodup_cons.1 hd
    rw [List.map_cons] at h
    obtain ⟨h1, h2⟩ := leastP_can h
    have ih := shareF_exact (P := fun x => if x = c then leastP p0 mn cents target (bt c) (comeS (r.map bt)) sum saved else P x) hd2 h2
    have hself : shareF p0 mn cents target bt (c :: r) sum saved P c = leastP p0 mn cents target (bt c) (comeS (r.map bt)) sum saved := by
      rw [shareF]
      rw [shareF_other hd1, if_pos rfl]
    rw [sumI, sumOf, hself, ← Nat.add_assoc, ← Int.add_assoc]
    exact ih
/-- Nothing more can be had. -/
def MaxS (p0 : Nat) (mn cents target : Int) (bs : List (List Int)) (sum : Nat) (saved : Int) : Prop :=
  ∀ n, tat (comeS bs) n ≠ -1 → saveG p0 mn cents ((sum + n : Nat) : Int) ≠ -1 → saved + tat (comeS bs) n + saveG p0 mn cents ((sum + n : Nat) : Int) ≤ target
theorem max_start {bs : List (List Int)} {mn cents : Int} (ho : Okt (comeS bs)) (hc : 0 ≤ cents) (p : Nat) : MaxS p mn cents (tat (bestS (comeS bs) mn cents) p) bs 0 0 := by
  intro n h1 h2
  have h3 := saveG_eq h2
  have h4 := (saveG_ne hc).1 h2
  rw [h3]
  by_cases e : n = p
  · subst e
    have h5 := bestS_pass (come := comeS bs) (mn := mn) (cents := cents) n
    have e2 : ((0 + n : Nat) : Int) - (n : Nat) = 0 := by omega
    rw [e2, Int.zero_mul]
    omega
  · have h5 := bestS_take ho (mn := mn) hc (p := p) h1 (by unfold needN; omega)
    have e2 : ((0 + n : Nat) : Int) - (p : Nat) = (n : Int) - p := by omega
    rw [e2]
    omega
theorem max_step {p0 : Nat} {mn cents target : Int} {b : List Int} {r : List (List Int)} {sum : Nat} {saved : Int} (hb : Okt b) (hr : Okt (comeS r)) (h : MaxS p0 mn cents target (b :: r) sum saved) {p : Nat} (hp : tat b p ≠ -1) :
    MaxS p0 mn cents target r (sum + p) (saved + tat b p) := by
  intro n h1 h2
  have h3 := mergeS_ge hp h1
  have h4 := hb.nn hp
  have h5 := hr.nn h1
  have h6 := h (p + n) (by rw [comeS_cons]; omega) (by rw [← Nat.add_assoc]; exact h2)
  rw [comeS_cons, ← Nat.add_assoc] at h6
  omega
theorem shareF_least {p0 : Nat} {mn cents target : Int} {bt : Nat → List Int} : ∀ {l : List Nat} {sum : Nat} {saved : Int} {P : Nat → Nat}, l.Nodup → (∀ c ∈ l, Okt (bt c)) → Can p0 mn cents target (l.map bt) sum saved → MaxS p0 mn cents target (l.map bt) sum saved →
    ∀ {Q : Nat → Nat} {g : Nat}, g ∈ l → (∀ c ∈ l, c ≠ g → Q c = shareF p0 mn cents target bt l sum saved P c) → Q g < shareF p0 mn cents target bt l sum saved P g → (∀ c ∈ l, tat (bt c) (Q c) ≠ -1) →
    saveG p0 mn cents ((sum + sumOf Q l : Nat) : Int) ≠ -1 → saved + sumI (fun c => tat (bt c) (Q c)) l + saveG p0 mn cents ((sum + sumOf Q l : Nat) : Int) < target
  | [], sum, saved, P, _, _, _, _, Q, g, hg => by cases hg
  | a :: r, sum, saved, P, hd, ho, hcan, hmax, Q, g, hg => by
    intro hsame hless hne hsv
    obtain ⟨hd1, hd2⟩ := List.nodup_cons.1 hd
    have hself : shareF p0 mn cents target bt (a :: r) sum saved P a = leastP p0 mn cents target (bt a) (comeS (r.map bt)) sum saved := by
      rw [shareF]
      rw [shareF_other hd1, if_pos rfl]
    have hoa := ho a List.mem_cons_self
    have hor : ∀ c ∈ r, Okt (bt c) := fun c hc => ho c (List.mem_cons_of_mem _ hc)
    have hcr : Okt (comeS (r.map bt)) := comeS_ok fun b hb => by
      obtain ⟨d, hdm, rfl⟩ := List.mem_map.1 hb
      exact hor d hdm
    rw [List.map_cons] at hcan hmax
    have hna := hne a List.mem_cons_self
    rw [sumI, sumOf, ← Nat.add_assoc, ← Int.add_assoc]
    rw [sumOf, ← Nat.add_assoc] at hsv
    by_cases e : g = a
    · subst e
      rw [hself] at hless
      have hno := (leastP_spec (can_some hcan)).2 _ hless
      obtain ⟨g1, g2⟩ := come_ge (bt := bt) (q := Q) hor (fun c hc => hne c (List.mem_cons_of_mem _ hc))
      have h1 := max_step hoa hcr hmax hna _ g1 hsv
      rcases Int.lt_or_le (saved + tat (bt g) (Q g) + sumI (fun c => tat (bt c) (Q c)) r + saveG p0 mn cents ((sum + Q g + sumOf Q r : Nat) : Int)) target with h | h
      · exact h
      · have : canP p0 mn cents target (bt g) (comeS (r.map bt)) sum saved (Q g) = true := canP_iff.2 ⟨hna, sumOf Q r, canA_iff.2 ⟨g1, hsv, by omega⟩⟩
        rw [hno] at this
        cases this
    · have hgr : g ∈ r := by
        rcases List.mem_cons.1 hg with h | h
        · exact absurd h e
        · exact h
      have hQa : Q a = leastP p0 mn cents target (bt a) (comeS (r.map bt)) sum saved := by rw [← hself]; exact hsame a List.mem_cons_self (Ne.symm e)
      obtain ⟨h1, h2⟩ := leastP_can hcan
      rw [← hQa] at h1 h2
      have h3 := max_step hoa hcr hmax h1
      refine shareF_least (P := fun x => if x = a then Q a else P x) hd2 hor h2 h3 hgr (fun c hc hne => ?_) ?_ (fun c hc => hne c (List.mem_cons_of_mem _ hc)) hsv
      · rw [hsame c (List.mem_cons_of_mem _ hc) hne, shareF, ← hQa]
      · rw [shareF, ← hQa] at hless
        exact hless
structure PassE (ls : List Level) (gs : List Group) (i0 : Nat) (P : Nat → Nat) : Prop where
  exact : ∀ i, i0 ≤ i → i < gs.length → (gAt gs i).level ≠ 0 → sumI (fun c => tat (bestT ls gs c) (P c)) (subsS gs i) + saveG (P i) (minAt ls (gAt gs i).level) (centsAt ls (gAt gs i).level) ((sumOf P (subsS gs i) : Nat) : Int) = tat (bestT ls gs i) (P i)
  least : ∀ i, i0 ≤ i → i < gs.length → (gAt gs i).level ≠ 0 → ∀ (Q : Nat → Nat) (g : Nat), g ∈ subsS gs i → (∀ c ∈ subsS gs i, c ≠ g → Q c = P c) → Q g < P g → (∀ c ∈ subsS gs i, tat (bestT ls gs c) (Q c) ≠ -1) →
    saveG (P i) (minAt ls (gAt gs i).level) (centsAt ls (gAt gs i).level) ((sumOf Q (subsS gs i) : Nat) : Int) ≠ -1 →
    sumI (fun c => tat (bestT ls gs c) (Q c)) (subsS gs i) + saveG (P i) (minAt ls (gAt gs i).level) (centsAt ls (gAt gs i).level) ((sumOf Q (subsS gs i) : Nat) : Int) < tat (bestT ls gs i) (P i)
section
variable {ls : List Level} {gs : List Group} {m : Nat} {idx : Nat → Nat → Nat}
theorem PassI.max (G : GSat 0 0 gs m ls.length idx) (hl : LvOk ls) {i : Nat} (P : Nat → Nat) (hi : i < gs.length) (hlv : (gAt gs i).level ≠ 0) :
    MaxS (P i) (minAt ls (gAt gs i).level) (centsAt ls (gAt gs i).level) (tat (bestT ls gs i) (P i)) ((subsS gs i).map (bestT ls gs)) 0 0 := by
  obtain ⟨l, hlL, e⟩ := G.level hi
  obtain ⟨t1, _⟩ := tables_ok G hl hi e
  have hB := bestT_eq (ls := ls) G hi
  have hc := comeT_up (ls := ls) hlv
  unfold comeT at hc t1
  rw [hc] at hB t1
  rw [hB]
  exact max_start t1.ok (hl.cents _).1 _
theorem PassE.step (G : GSat 0 0 gs m ls.length idx) (hl : LvOk ls) {i : Nat} {P : Nat → Nat} (hI : PassI ls gs (i + 1) P) (h : PassE ls gs (i + 1) P) (hi : i < gs.length) : PassE ls gs i (shareI ls gs P i) := by
  by_cases hlv : (gAt gs i).level = 0
  · have hs : shareI ls gs P i = P := by unfold shareI; rw [G.no_subs hlv]; rfl
    rw [hs]
    refine ⟨fun j hj hjl hne => ?_, fun j hj hjl hne => ?_⟩
    · by_cases e : j = i
      · subst e; exact absurd hlv hne
      · exact h.exact j (by omega) hjl hne
    · by_cases e : j = i
      · subst e; exact absurd hlv hne
      · exact h.least j (by omega) hjl hne
  · have hoth : ∀ x, x ∉ subsS gs i → shareI ls gs P i x = P x := fun x hx => shareF_other hx
    have hnot : ∀ x, x < gs.length → (gAt gs x).up ≠ ((i : Nat) : Int) → x ∉ subsS gs i := fun x hx hu hm => hu (subs_mem.1 hm).2
    have hself : shareI ls gs P i i = P i := hoth i fun hm => absurd (G.sub hm).2.1 (Nat.lt_irrefl _)
    have hj1 : ∀ j, i + 1 ≤ j → shareI ls gs P i j = P j := fun j hj => hoth j fun hm => by have := (G.sub hm).2.1; omega
    have hjs : ∀ j, i + 1 ≤ j → ∀ c ∈ subsS gs j, shareI ls gs P i c = P c := fun j hj c hc => hoth c (hnot c (subs_mem.1 hc).1 (by have := (subs_mem.1 hc).2; omega))
    have hcan := hI.can G hl hi hlv
    have hmax := PassI.max G hl P hi hlv
    refine ⟨fun j hj hjl hne => ?_, fun j hj hjl hne Q g hg hq => ?_⟩
    · by_cases e : j = i
      · subst e
        rw [hself]
        have s := shareF_exact (bt := bestT ls gs) (P := P) (subs_nodup gs j) hcan
        rw [Nat.zero_add, Int.zero_add] at s
        exact s
      · rw [hj1 j (by omega), sumOf_congr (hjs j (by omega)), sumI_congr (fun c hc => by rw [hjs j (by omega) c hc])]
        exact h.exact j (by omega) hjl hne
    · by_cases e : j = i
      · subst e
        intro hless hsome hsv
        rw [hself] at hsv ⊢
        have s := shareF_least (bt := bestT ls gs) (P := P) (subs_nodup gs j) (fun c hc => best_okt G hl (subs_mem.1 hc).1) hcan hmax hg hq hless hsome (by rw [Nat.zero_add]; exact hsv)
        rw [Nat.zero_add, Int.zero_add] at s
        exact s
      · rw [hj1 j (by omega), hjs j (by omega) g hg]
        exact h.least j (by omega) hjl hne Q g hg (fun c hc hne => by rw [hq c hc hne, hjs j (by omega) c hc])
theorem passE_all (G : GSat 0 0 gs m ls.length idx) (hl : LvOk ls) : ∀ j, j ≤ gs.length → PassE ls gs (gs.length - j) (passF ls gs j)
  | 0, _ => ⟨fun i h h' => by omega, fun i h h' => by omega⟩
  | j + 1, hj => by
    have h := passE_all G hl j (by omega)
    have h' := passI_all G hl j (by omega)
    rw [show gs.length - j = gs.length - (j + 1) + 1 from by omega] at h h'
    exact h.step G hl h' (by omega)
theorem pass_low (G : GSat 0 0 gs m ls.length idx) (hl : LvOk ls) {i : Nat} (hi : i < gs.length) (hlv : (gAt gs i).level = 0) :
    tat (bestT ls gs i) (passF ls gs gs.length i) = (((gAt gs i).items.length : Nat) - (passF ls gs gs.length i : Nat) : Int) * centsAt ls (gAt gs i).level := by
  have h := passI_all G hl gs.length (Nat.le_refl _)
  rw [Nat.sub_self] at h
  have h1 := h.some i hi (by
    rcases G.up_cases hi with e | ⟨j, _, h2, h3⟩
    · exact .inl e
    · exact .inr (by omega))
  obtain ⟨l, hlL, e⟩ := G.level hi
  obtain ⟨t1, _⟩ := tables_ok G hl hi e
  rw [bestT_eq G hi] at h1 ⊢
  obtain ⟨n, n1, n2, n3⟩ := bestS_from t1.ok (hl.cents _).1 h1
  have hc := comeT_low (ls := ls) hlv
  have n4 : tat (comeT ls gs i) n ≠ -1 := n1
  rw [hc] at n4
  obtain rfl := own_at n4
  have n5 : tat (comeI gs (bestsS ls gs gs.length) i) (gAt gs i).items.length = 0 := by
    have : comeI gs (bestsS ls gs gs.length) i = comeT ls gs i := rfl
    rw [this, hc, own_last]
  refine n3.trans ?_
  have n6 : tat (comeT ls gs i) (gAt gs i).items.length = 0 := n5
  rw [n6, Int.zero_add]
end

/-! ### The plan: how many each group passes on, and which -/
theorem drop_sorted {F : List Nat} (h : F.Pairwise (· < ·)) (n : Nat) {x y : Nat} (hx : x ∈ F.drop n) (hy : y ∈ F) (hxy : x < y) : y ∈ F.drop n := by
  rw [← List.take_append_drop n F] at h hy
  rcases List.mem_append.1 hy with h1 | h1
  · have := (List.pairwise_append.1 h).2.2 y h1 x hx
    omega
  · exact h1
structure PastI (m L : Nat) (idx : Nat → Nat → Nat) (P : Nat → Nat) (i0 : Nat) (pl : Nat → Int) : Prop where
  past : ∀ l k, l < L → k < m → idx l k < i0 → pastN idx m pl l (idx l k) = P (idx l k)
  order : ∀ l k k', l < L → k < k' → k' < m → idx l k = idx l k' → idx l k < i0 → (l : Int) < pl k → pl k' ≠ (l : Int)
theorem PastI.step {gs : List Group} {m L : Nat} {idx : Nat → Nat → Nat} {P : Nat → Nat} (G : GSat 0 0 gs m L idx) {l k0 : Nat} (hl : l < L) (hk : k0 < m) {pl : Nat → Int} (hI : PlanI gs m L idx P (idx l k0) pl) (h : PastI m L idx P (idx l k0) pl) (hp : P (idx l k0) ≤ comeN gs P (idx l k0)) : PastI m L idx P (idx l k0 + 1) (giveF pl (goneL gs P pl (idx l k0))) := by
  have hcome := hI.come G hl hk
  generalize hF : ((List.range m).filter fun k => idx l k == idx l k0 && pl k == (l : Int)) = F
  have hce : comeL gs pl (idx l k0) = F.map ofN := by rw [comeL_eq G hl hk, hF]
  have hlen : F.length = comeN gs P (idx l k0) := by rw [← hcome, hce, List.length_map]
  have hg : goneL gs P pl (idx l k0) = (F.drop (F.length - P (idx l k0))).map ofN := by
    unfold goneL
    rw [hce, List.length_map, List.map_drop]
  have hFs : F.Pairwise (· < ·) := by rw [← hF]; exact List.pairwise_lt_range.filter _
  have hFm : ∀ k, k ∈ F ↔ k < m ∧ idx l k = idx l k0 ∧ pl k = l := fun k => by
    rw [← hF, List.mem_filter, List.mem_range]
    simp
  generalize hn : F.length - P (idx l k0) = n at hg
  generalize hD : F.drop n = D at hg
  have hDs : D.Sublist (List.range m) := by
    rw [← hD, ← hF]
    exact (List.drop_sublist _ _).trans List.filter_sublist
  have hDF : ∀ k, k ∈ D → k < m ∧ idx l k = idx l k0 ∧ pl k = l := fun k hkD => by
    rw [← hD] at hkD
    exact (hFm k).1 (List.mem_of_mem_drop hkD)
  have hDl : D.length = P (idx l k0) := by rw [← hD, List.length_drop]; omega
  have hgive : ∀ k, giveF pl (goneL gs P pl (idx l k0)) k = if k ∈ D then pl k + 1 else pl k := fun k => by
    unfold giveF
    rw [hg]
    simp only [ofN_mem]
  clear hg hce hlen hcome
  have hin : ∀ j, j < m → idx l j = idx l k0 → ((l : Int) < giveF pl (goneL gs P pl (idx l k0)) j ↔ j ∈ D) := fun j hj e => by
    rw [hgive]
    constructor
    · intro h1
      split at h1
      · assumption
      · have := hI.low l j hl hj (by omega)
        omega
    · intro h1
      obtain ⟨_, _, b3⟩ := hDF j h1
      rw [if_pos h1]
      omega
  have hlow : ∀ l2 j, l2 < L → j < m → idx l2 j < idx l k0 → j ∈ D → l2 < l := fun l2 j a1 hj a5 hm => by
    obtain ⟨_, b2, b3⟩ := hDF _ hm
    rcases Nat.lt_trichotomy l2 l with e' | e' | e'
    · exact e'
    · subst e'; omega
    · have := G.mono e' a1 hj hj; omega
  refine ⟨fun l2 k2 a1 a2 a3 => ?_, fun l2 k k' a1 a2 a3 a4 a5 a6 => ?_⟩
  · by_cases e : idx l2 k2 = idx l k0
    · obtain rfl := G.same a1 hl a2 hk e
      rw [e, ← hDl, ← filter_sub hDs List.nodup_range, ← List.countP_eq_length_filter]
      unfold pastN
      refine List.countP_congr fun j hjm => ?_
      have hjm := List.mem_range.1 hjm
      simp only [Bool.and_eq_true, beq_iff_eq, decide_eq_true_eq]
      constructor
      · rintro ⟨c1, c2⟩
        exact (hin j hjm c1).1 c2
      · intro hm
        obtain ⟨_, b2, _⟩ := hDF _ hm
        exact ⟨b2, (hin j hjm b2).2 hm⟩
    · have a5 : idx l2 k2 < idx l k0 := by omega
      rw [← h.past l2 k2 a1 a2 a5]
      unfold pastN
      refine List.countP_congr fun j hjm => ?_
      have hjm := List.mem_range.1 hjm
      simp only [Bool.and_eq_true, beq_iff_eq, decide_eq_true_eq]
      rw [hgive]
      by_cases hm : j ∈ D
      · rw [if_pos hm]
        obtain ⟨_, b2, b3⟩ := hDF _ hm
        constructor
        · rintro ⟨c1, _⟩
          have := hlow l2 j a1 hjm (by omega) hm
          exact ⟨c1, by omega⟩
        · rintro ⟨c1, _⟩
          have := hlow l2 j a1 hjm (by omega) hm
          exact ⟨c1, by omega⟩
      · rw [if_neg hm]
  · by_cases e : idx l2 k = idx l k0
    · obtain rfl := G.same a1 hl (by omega) hk e
      have hkD := (hin k (by omega) e).1 a6
      rw [hgive]
      by_cases hm : k' ∈ D
      · rw [if_pos hm]
        obtain ⟨_, _, b3⟩ := hDF _ hm
        omega
      · rw [if_neg hm]
        intro hpl
        refine hm ?_
        rw [← hD] at hkD ⊢
        exact drop_sorted hFs n hkD ((hFm k').2 ⟨a3, by omega, hpl⟩) a2
    · have a7 : idx l2 k < idx l k0 := by omega
      have h1 : (l2 : Int) < pl k := by
        rw [hgive] at a6
        split at a6
        · rename_i hm
          have := hlow l2 k a1 (by omega) a7 hm
          obtain ⟨_, _, b3⟩ := hDF _ hm
          omega
        · exact a6
      have h2 := h.order l2 k k' a1 a2 a3 a4 a7 h1
      rw [hgive]
      split
      · rename_i hm
        have := hlow l2 k' a1 a3 (by omega) hm
        obtain ⟨_, _, b3⟩ := hDF _ hm
        omega
      · exact h2
section
variable {ls : List Level} {gs : List Group} {m : Nat} {idx : Nat → Nat → Nat}
theorem pastI_all (G : GSat 0 0 gs m ls.length idx) (hl : LvOk ls) : ∀ i, i ≤ gs.length → PastI m ls.length idx (passF ls gs gs.length) i (planF gs (passF ls gs gs.length) i)
  | 0, _ => ⟨fun _ _ _ _ h => by omega, fun _ _ _ _ _ _ _ h => by omega⟩
  | i + 1, hi => by
    have h := pastI_all G hl i (by omega)
    have h' := planI_all G hl i (by omega)
    obtain ⟨l, k, q1, q2, q3, _⟩ := G.its (i := i) (by omega)
    subst q3
    exact h.step G q1 q2 h' (pass_le G hl (by omega))
/-- The plan of the groups, as a function. -/
def plG (ls : List Level) (gs : List Group) : Nat → Int := planF gs (passF ls gs gs.length) gs.length
theorem plG_past (G : GSat 0 0 gs m ls.length idx) (hl : LvOk ls) {l k : Nat} (h1 : l < ls.length) (h2 : k < m) : pastN idx m (plG ls gs) l (idx l k) = passF ls gs gs.length (idx l k) :=
  (pastI_all G hl gs.length (Nat.le_refl _)).past l k h1 h2 (G.lt h1 h2)
theorem plG_order (G : GSat 0 0 gs m ls.length idx) (hl : LvOk ls) {l k k' : Nat} (h1 : l < ls.length) (h2 : k < k') (h3 : k' < m) (h4 : idx l k = idx l k') (h5 : (l : Int) < plG ls gs k) : plG ls gs k' ≠ (l : Int) :=
  (pastI_all G hl gs.length (Nat.le_refl _)).order l k k' h1 h2 h3 h4 (G.lt h1 (by omega)) h5
theorem plG_nn (gs : List Group) (ls : List Level) : ∀ (i k : Nat), 0 ≤ planF gs (passF ls gs gs.length) i k
  | 0, _ => Int.le_refl _
  | i + 1, k => by
    have := plG_nn gs ls i k
    rw [planF]
    unfold giveF
    split <;> omega
theorem plG_arr (G : GSat 0 0 gs m ls.length idx) (hl : LvOk ls) {l k : Nat} (h1 : l < ls.length) (h2 : k < m) : arrN idx m (plG ls gs) l (idx l k) = comeN gs (passF ls gs gs.length) (idx l k) := by
  unfold comeN
  match l with
  | 0 => rw [if_pos (by rw [G.lvl h1 h2]; rfl), arr_low G h1 h2 (pl := plG ls gs) fun k _ => plG_nn gs ls _ k]
  | l + 1 =>
    rw [if_neg (by rw [G.lvl h1 h2]; omega), arr_up G h1 h2]
    refine sumOf_congr fun c hc => ?_
    obtain ⟨k', hk', rfl⟩ := G.sub_at h1 h2 hc
    exact plG_past G hl (by omega) hk'
theorem plG_top (G : GSat 0 0 gs m ls.length idx) (hl : LvOk ls) {k : Nat} (h0 : 0 < ls.length) (hk : k < m) : plG ls gs k < ls.length := by
  have h1 := plG_past G hl (l := ls.length - 1) (by omega) hk
  have h2 := (passI_all G hl gs.length (Nat.le_refl _)).root (idx (ls.length - 1) k) (G.lt (by omega) hk) (G.top (by omega) hk)
  rw [h2] at h1
  unfold pastN at h1
  rw [List.countP_eq_zero] at h1
  have h3 := h1 k (List.mem_range.2 hk)
  simp at h3
  omega
/-- The plan of the groups is valid. -/
theorem plG_ok (G : GSat 0 0 gs m ls.length idx) (hl : LvOk ls) (h0 : 0 < ls.length) : PlOk ls m idx (plG ls gs) := by
  refine ⟨fun k hk => ⟨plG_nn gs ls _ k, plG_top G hl h0 hk⟩, fun l k h1 h2 => ?_⟩
  have h3 := pass_saves G hl (G.lt h1 h2)
  rw [G.lvl h1 h2, saveG_ne (hl.cents _).1, ← plG_arr G hl h1 h2, arr_split, plG_past G hl h1 h2] at h3
  omega
/-- What it saves in a group and its subgroups. -/
theorem opt_eq (G : GSat 0 0 gs m ls.length idx) (hl : LvOk ls) : ∀ l k, l < ls.length → k < m → subW ls idx m (plG ls gs) l (idx l k) = tat (bestT ls gs (idx l k)) (passF ls gs gs.length (idx l k)) := by
  intro l
  induction l with
  | zero =>
    intro k h1 h2
    have h3 := pass_low G hl (G.lt h1 h2) (by rw [G.lvl h1 h2]; rfl)
    have h4 := arr_low G h1 h2 (pl := plG ls gs) fun k _ => plG_nn gs ls _ k
    rw [arr_split, plG_past G hl h1 h2] at h4
    rw [h3, subW_low (pl := plG ls gs) fun k _ => plG_nn gs ls _ k, G.lvl h1 h2, ← h4]
    congr 1
    omega
  | succ l ih =>
    intro k h1 h2
    have hE := passE_all G hl gs.length (Nat.le_refl _)
    rw [Nat.sub_self] at hE
    have h3 := hE.exact (idx (l + 1) k) (Nat.zero_le _) (G.lt h1 h2) (by rw [G.lvl h1 h2]; omega)
    have h4 := pass_saves G hl (G.lt h1 h2)
    have h5 := plG_arr G hl h1 h2
    have h6 := arr_up G h1 h2 (plG ls gs)
    have h7 : sumOf (pastN idx m (plG ls gs) l) (subsS gs (idx (l + 1) k)) = sumOf (passF ls gs gs.length) (subsS gs (idx (l + 1) k)) := sumOf_congr fun c hc => by
      obtain ⟨k', hk', rfl⟩ := G.sub_at h1 h2 hc
      exact plG_past G hl (by omega) hk'
    rw [← h7, ← h6] at h3
    rw [← h5] at h4
    have h8 := saveG_eq h4
    rw [h8, G.lvl h1 h2, arr_split, plG_past G hl h1 h2] at h3
    rw [← h3, subW_up G h1]
    congr 1
    · refine sumI_congr fun c hc => ?_
      obtain ⟨k', hk', rfl⟩ := G.sub_at h1 h2 hc
      exact ih k' (by omega) hk'
    · congr 1
      omega
/-- One piece that was passed on is taken: that is not valid, or saves less. -/
theorem opt_few (G : GSat 0 0 gs m ls.length idx) (hl : LvOk ls) {q : Nat → Int} (hq : PlOk ls m idx q) {i l : Nat} (hi : i < m) (hpi : plG ls gs i = ((l + 1 : Nat) : Int)) (hqi : q i = (l : Int)) (hsame : ∀ k, k < m → k ≠ i → q k = plG ls gs k) (hl1 : l + 1 < ls.length) :
    subW ls idx m q (l + 1) (idx (l + 1) i) < subW ls idx m (plG ls gs) (l + 1) (idx (l + 1) i) := by
  have hE := passE_all G hl gs.length (Nat.le_refl _)
  rw [Nat.sub_self] at hE
  have hgm : idx l i ∈ subsS gs (idx (l + 1) i) := subs_mem.2 ⟨G.lt (by omega) hi, by rw [G.up hl1 hi]; omega⟩
  have hcnt : ∀ l2 j, (∀ k, k < m → k ≠ i → True) → (idx l2 i ≠ j ∨ ((l2 : Int) < q i ↔ (l2 : Int) < plG ls gs i)) → pastN idx m q l2 j = pastN idx m (plG ls gs) l2 j := fun l2 j _ hd => by
    unfold pastN
    refine List.countP_congr fun k hk => ?_
    have hk := List.mem_range.1 hk
    simp only [Bool.and_eq_true, beq_iff_eq, decide_eq_true_eq]
    by_cases e : k = i
    · subst e
      rcases hd with hd | hd
      · constructor <;> rintro ⟨a, _⟩ <;> exact absurd a hd
      · rw [hd]
    · rw [hsame k hk e]
  have hless : pastN idx m q l (idx l i) < pastN idx m (plG ls gs) l (idx l i) := by
    have h1 : pastN idx m (plG ls gs) l (idx l i) = pastN idx m q l (idx l i) + (List.range m).countP fun k => k == i := by
      unfold pastN
      refine countP_two' (fun k hk => ?_) (fun k hk => ?_)
      · have hk := List.mem_range.1 hk
        rw [Bool.eq_iff_iff]
        simp only [Bool.and_eq_true, Bool.or_eq_true, beq_iff_eq, decide_eq_true_eq]
        by_cases e : k = i
        · subst e; rw [hpi]; constructor
          · intro _; exact .inr rfl
          · intro _; exact ⟨rfl, by omega⟩
        · rw [hsame k hk e]; constructor
          · intro h; exact .inl h
          · rintro (h | h)
            · exact h
            · exact absurd h e
      · rw [← Bool.not_eq_true]
        simp only [Bool.and_eq_true, beq_iff_eq, decide_eq_true_eq]
        rintro ⟨⟨_, a⟩, rfl⟩
        omega
    have h2 : 0 < (List.range m).countP fun k => k == i := List.countP_pos_iff.2 ⟨i, List.mem_range.2 hi, by simp⟩
    omega
  have hopt := opt_le G hl hq
  have hsub : ∀ c ∈ subsS gs (idx (l + 1) i), tat (bestT ls gs c) (pastN idx m q l c) ≠ -1 ∧ subW ls idx m q l c ≤ tat (bestT ls gs c) (pastN idx m q l c) := fun c hc => by
    obtain ⟨k', hk', rfl⟩ := G.sub_at hl1 hi hc
    exact hopt l k' (by omega) hk'
  have hP : ∀ c ∈ subsS gs (idx (l + 1) i), passF ls gs gs.length c = pastN idx m (plG ls gs) l c := fun c hc => by
    obtain ⟨k', hk', rfl⟩ := G.sub_at hl1 hi hc
    exact (plG_past G hl (by omega) hk').symm
  have hph : pastN idx m q (l + 1) (idx (l + 1) i) = passF ls gs gs.length (idx (l + 1) i) := by
    rw [hcnt (l + 1) _ (fun _ _ _ => trivial) (.inr (by omega)), plG_past G hl hl1 hi]
  have hlv := G.lvl hl1 hi
  have harr := arr_up G hl1 hi q
  have hs := arr_split idx m q (l + 1) (idx (l + 1) i)
  have hok := hq.ok (l + 1) i hl1 hi
  have hcc := (hl.cents ((l + 1 : Nat) : Int)).1
  have hsv : saveG (passF ls gs gs.length (idx (l + 1) i)) (minAt ls ((l + 1 : Nat) : Int)) (centsAt ls ((l + 1 : Nat) : Int)) ((sumOf (pastN idx m q l) (subsS gs (idx (l + 1) i)) : Nat) : Int) ≠ -1 := by
    rw [saveG_ne hcc]
    omega
  have h1 := hE.least (idx (l + 1) i) (Nat.zero_le _) (G.lt hl1 hi) (by rw [hlv]; omega) (pastN idx m q l) (idx l i) hgm (fun c hc hne => by rw [hP c hc]; exact hcnt l c (fun _ _ _ => trivial) (.inl (Ne.symm hne))) (by rw [hP _ hgm]; exact hless) (fun c hc => (hsub c hc).1) (by rw [hlv]; exact hsv)
  rw [← opt_eq G hl (l + 1) i hl1 hi] at h1
  rw [hlv, saveG_eq hsv] at h1
  rw [subW_up G hl1 (pl := q)]
  have h2 := sumI_le (l := subsS gs (idx (l + 1) i)) fun c hc => (hsub c hc).2
  have e2 : ((sumOf (pastN idx m q l) (subsS gs (idx (l + 1) i)) : Nat) : Int) - (passF ls gs gs.length (idx (l + 1) i) : Nat) = (takeN idx m q (l + 1) (idx (l + 1) i) : Nat) := by omega
  rw [e2] at h1
  omega
end
end LB
namespace Go.Proofs.YtejmlkfdkodabaaDoor
open Go.RowKit LB Go.Proofs.YtejmlkfdkodabaaDoorW.PrintWords
theorem cell_b {w wr : World} (hb : Below w.heap.size w wr) {g o j : Nat} {v : Value} (hc : w.cell? ⟨g, o + j, none⟩ = some v) : wr.cell? ⟨g, o + j, none⟩ = some v := pw_cell_below hb hc
theorem at_any {α : Type} {d : Kd α} {w : World} {A : Option Addr} {n : Nat} {xs : List α} (h : Kd.C d w A n xs) (k : Nat) (hk : k < xs.length) (hd : 0 < d.sz) :
    ∃ g o c, A = some ⟨g, o, none⟩ ∧ g < w.heap.size ∧ d.K w xs[k] c ∧ ∀ j u, c[j]? = some u → w.cell? ⟨g, o + k * d.sz + j, none⟩ = some u := by
  have hn : n = xs.length := h.1.symm
  obtain ⟨ad, c, e, hl, hK, hc0⟩ := Kd.C_get h xs[k] (k : Int) (by omega) (by omega)
  rw [Int.toNat_natCast, List.getD_eq_getElem?_getD, List.getElem?_eq_getElem hk, Option.getD_some] at hK
  obtain ⟨ad0, c0, e0, hl0, _, hc1⟩ := Kd.C_get h xs[k] 0 (by omega) (by omega)
  rw [e] at e0
  injection e0 with e0
  subst e0
  have hz := hc1 0 _ (List.getElem?_eq_getElem (by omega))
  rw [show (0 : Int).toNat * d.sz + 0 = 0 by simp] at hz
  have hadd : ad.add 0 = ad := by simp [Addr.add]
  rw [hadd] at hz
  obtain ⟨g, o, s⟩ := ad
  have hs : s = none := by
    cases s with
    | none => rfl
    | some x => exfalso; revert hz; simp only [World.cell?]; split <;> simp
  subst hs
  have hlt := World.block_lt_of_cell? w _ hz
  refine ⟨g, o, c, e, hlt, hK, fun j u hj => ?_⟩
  have := hc0 j u hj
  rwa [Int.toNat_natCast, add_at, ← Nat.add_assoc] at this


/-! ### Label -/
def kLabel : Kd Label := Kd.iso (Kd.pair Kd.string Kd.string) (fun x : Label => (x.pre, x.grp))
theorem kLabel_open {w : World} {x : Label} {cs : List Value} (h : kLabel.K w x cs) : cs = [.string x.pre, .string x.grp] := by
  obtain ⟨_, _, rfl, rfl, rfl⟩ := h
  exact rfl
theorem kLabel_openM {w : World} {base : Nat} {ok : Nat → Prop} {x : Label} {cs : List Value} (h : kLabel.M w base ok x cs) : cs = [.string x.pre, .string x.grp] := by
  obtain ⟨_, _, rfl, rfl, rfl⟩ := h
  exact rfl
theorem kLabel_mk (w : World) (x : Label) : kLabel.K w x [.string x.pre, .string x.grp] := ⟨[.string x.pre], [.string x.grp], rfl, rfl, rfl⟩
theorem kLabel_mkM (w : World) (base : Nat) (ok : Nat → Prop) (x : Label) : kLabel.M w base ok x [.string x.pre, .string x.grp] := ⟨[.string x.pre], [.string x.grp], rfl, rfl, rfl⟩
theorem atLabel {w wr : World} {A : Option Addr} {n : Nat} {xs : List Label} (h : Kd.C kLabel w A n xs) (hb : Below w.heap.size w wr) (k : Nat) (hk : k < xs.length) : ∃ g o, A = some ⟨g, o, none⟩ ∧ g < w.heap.size ∧ g < wr.heap.size ∧ wr.cell? ⟨g, o + k * 2, none⟩ = some (.string xs[k].pre) ∧ wr.cell? ⟨g, o + k * 2 + 1, none⟩ = some (.string xs[k].grp) := by
  obtain ⟨g, o, c, e, hg, hK, hc⟩ := at_any (d := kLabel) h k hk (by decide)
  obtain rfl := kLabel_open hK
  exact ⟨g, o, e, hg, Nat.lt_of_lt_of_le hg hb.size, cell_b hb (hc 0 _ rfl), cell_b hb (hc 1 _ rfl)⟩

/-! ### Level -/
def kLevel : Kd Level := Kd.iso (Kd.pair Kd.string (Kd.pair (Kd.int .i64) (Kd.pair (Kd.slice 87 kLabel) (Kd.pair (Kd.int .i64) (Kd.int .i64))))) (fun x : Level => (x.name, x.pre, x.labels, x.min, x.cents))
theorem kLevel_open {w : World} {x : Level} {cs : List Value} (h : kLevel.K w x cs) : ∃ A2 c2, cs = [.string x.name, .int .i64 x.pre, .slice A2 x.labels.length c2, .int .i64 x.min, .int .i64 x.cents] ∧ x.labels.length ≤ c2 ∧ Kd.C kLabel w A2 x.labels.length x.labels := by
  obtain ⟨_, _, rfl, rfl, ⟨_, _, rfl, rfl, ⟨_, _, rfl, ⟨A2, c2, rfl, l2, g2⟩, ⟨_, _, rfl, rfl, rfl⟩⟩⟩⟩ := h
  exact ⟨A2, c2, rfl, l2, g2⟩
theorem kLevel_openM {w : World} {base : Nat} {ok : Nat → Prop} {x : Level} {cs : List Value} (h : kLevel.M w base ok x cs) : ∃ v2, cs = [.string x.name, .int .i64 x.pre, v2, .int .i64 x.min, .int .i64 x.cents] ∧ Kd.R kLabel 87 w base ok v2 x.labels := by
  obtain ⟨_, _, rfl, rfl, ⟨_, _, rfl, rfl, ⟨_, _, rfl, ⟨v2, rfl, g2⟩, ⟨_, _, rfl, rfl, rfl⟩⟩⟩⟩ := h
  exact ⟨v2, rfl, g2⟩
theorem kLevel_mk (w : World) (x : Level) {A2 : Option Addr} {c2 : Nat} (l2 : x.labels.length ≤ c2) (g2 : Kd.C kLabel w A2 x.labels.length x.labels) : kLevel.K w x [.string x.name, .int .i64 x.pre, .slice A2 x.labels.length c2, .int .i64 x.min, .int .i64 x.cents] := ⟨[.string x.name], [.int .i64 x.pre, .slice A2 x.labels.length c2, .int .i64 x.min, .int .i64 x.cents], rfl, rfl, ⟨[.int .i64 x.pre], [.slice A2 x.labels.length c2, .int .i64 x.min, .int .i64 x.cents], rfl, rfl, ⟨[.slice A2 x.labels.length c2], [.int .i64 x.min, .int .i64 x.cents], rfl, ⟨A2, c2, rfl, l2, g2⟩, ⟨[.int .i64 x.min], [.int .i64 x.cents], rfl, rfl, rfl⟩⟩⟩⟩
theorem kLevel_mkM (w : World) (base : Nat) (ok : Nat → Prop) (x : Level) {v2 : Value} (g2 : Kd.R kLabel 87 w base ok v2 x.labels) : kLevel.M w base ok x [.string x.name, .int .i64 x.pre, v2, .int .i64 x.min, .int .i64 x.cents] := ⟨[.string x.name], [.int .i64 x.pre, v2, .int .i64 x.min, .int .i64 x.cents], rfl, rfl, ⟨[.int .i64 x.pre], [v2, .int .i64 x.min, .int .i64 x.cents], rfl, rfl, ⟨[v2], [.int .i64 x.min, .int .i64 x.cents], rfl, ⟨v2, rfl, g2⟩, ⟨[.int .i64 x.min], [.int .i64 x.cents], rfl, rfl, rfl⟩⟩⟩⟩
theorem atLevel {w wr : World} {A : Option Addr} {n : Nat} {xs : List Level} (h : Kd.C kLevel w A n xs) (hb : Below w.heap.size w wr) (k : Nat) (hk : k < xs.length) : ∃ g o A2 c2, A = some ⟨g, o, none⟩ ∧ g < w.heap.size ∧ g < wr.heap.size ∧ wr.cell? ⟨g, o + k * 5, none⟩ = some (.string xs[k].name) ∧ wr.cell? ⟨g, o + k * 5 + 1, none⟩ = some (.int .i64 xs[k].pre) ∧ wr.cell? ⟨g, o + k * 5 + 2, none⟩ = some (.slice A2 xs[k].labels.length c2) ∧ wr.cell? ⟨g, o + k * 5 + 3, none⟩ = some (.int .i64 xs[k].min) ∧ wr.cell? ⟨g, o + k * 5 + 4, none⟩ = some (.int .i64 xs[k].cents) ∧ xs[k].labels.length ≤ c2 ∧ Kd.C kLabel w A2 xs[k].labels.length xs[k].labels := by
  obtain ⟨g, o, c, e, hg, hK, hc⟩ := at_any (d := kLevel) h k hk (by decide)
  obtain ⟨A2, c2, rfl, l2, g2⟩ := kLevel_open hK
  exact ⟨g, o, A2, c2, e, hg, Nat.lt_of_lt_of_le hg hb.size, cell_b hb (hc 0 _ rfl), cell_b hb (hc 1 _ rfl), cell_b hb (hc 2 _ rfl), cell_b hb (hc 3 _ rfl), cell_b hb (hc 4 _ rfl), l2, g2⟩

/-! ### Piece -/
def kPiece : Kd Piece := Kd.iso (Kd.pair (Kd.int .i64) (Kd.pair (Kd.int .i64) (Kd.pair Kd.string (Kd.pair (Kd.int .i64) Kd.bool)))) (fun x : Piece => (x.id, x.point, x.code, x.grams, x.barred))
theorem kPiece_open {w : World} {x : Piece} {cs : List Value} (h : kPiece.K w x cs) : cs = [.int .i64 x.id, .int .i64 x.point, .string x.code, .int .i64 x.grams, .bool x.barred] := by
  obtain ⟨_, _, rfl, rfl, ⟨_, _, rfl, rfl, ⟨_, _, rfl, rfl, ⟨_, _, rfl, rfl, rfl⟩⟩⟩⟩ := h
  exact rfl
theorem kPiece_openM {w : World} {base : Nat} {ok : Nat → Prop} {x : Piece} {cs : List Value} (h : kPiece.M w base ok x cs) : cs = [.int .i64 x.id, .int .i64 x.point, .string x.code, .int .i64 x.grams, .bool x.barred] := by
  obtain ⟨_, _, rfl, rfl, ⟨_, _, rfl, rfl, ⟨_, _, rfl, rfl, ⟨_, _, rfl, rfl, rfl⟩⟩⟩⟩ := h
  exact rfl
theorem kPiece_mk (w : World) (x : Piece) : kPiece.K w x [.int .i64 x.id, .int .i64 x.point, .string x.code, .int .i64 x.grams, .bool x.barred] := ⟨[.int .i64 x.id], [.int .i64 x.point, .string x.code, .int .i64 x.grams, .bool x.barred], rfl, rfl, ⟨[.int .i64 x.point], [.string x.code, .int .i64 x.grams, .bool x.barred], rfl, rfl, ⟨[.string x.code], [.int .i64 x.grams, .bool x.barred], rfl, rfl, ⟨[.int .i64 x.grams], [.bool x.barred], rfl, rfl, rfl⟩⟩⟩⟩
theorem kPiece_mkM (w : World) (base : Nat) (ok : Nat → Prop) (x : Piece) : kPiece.M w base ok x [.int .i64 x.id, .int .i64 x.point, .string x.code, .int .i64 x.grams, .bool x.barred] := ⟨[.int .i64 x.id], [.int .i64 x.point, .string x.code, .int .i64 x.grams, .bool x.barred], rfl, rfl, ⟨[.int .i64 x.point], [.string x.code, .int .i64 x.grams, .bool x.barred], rfl, rfl, ⟨[.string x.code], [.int .i64 x.grams, .bool x.barred], rfl, rfl, ⟨[.int .i64 x.grams], [.bool x.barred], rfl, rfl, rfl⟩⟩⟩⟩
theorem atPiece {w wr : World} {A : Option Addr} {n : Nat} {xs : List Piece} (h : Kd.C kPiece w A n xs) (hb : Below w.heap.size w wr) (k : Nat) (hk : k < xs.length) : ∃ g o, A = some ⟨g, o, none⟩ ∧ g < w.heap.size ∧ g < wr.heap.size ∧ wr.cell? ⟨g, o + k * 5, none⟩ = some (.int .i64 xs[k].id) ∧ wr.cell? ⟨g, o + k * 5 + 1, none⟩ = some (.int .i64 xs[k].point) ∧ wr.cell? ⟨g, o + k * 5 + 2, none⟩ = some (.string xs[k].code) ∧ wr.cell? ⟨g, o + k * 5 + 3, none⟩ = some (.int .i64 xs[k].grams) ∧ wr.cell? ⟨g, o + k * 5 + 4, none⟩ = some (.bool xs[k].barred) := by
  obtain ⟨g, o, c, e, hg, hK, hc⟩ := at_any (d := kPiece) h k hk (by decide)
  obtain rfl := kPiece_open hK
  exact ⟨g, o, e, hg, Nat.lt_of_lt_of_le hg hb.size, cell_b hb (hc 0 _ rfl), cell_b hb (hc 1 _ rfl), cell_b hb (hc 2 _ rfl), cell_b hb (hc 3 _ rfl), cell_b hb (hc 4 _ rfl)⟩

/-! ### Mailing -/
def kMailing : Kd Mailing := Kd.iso (Kd.pair (Kd.int .u8) (Kd.pair (Kd.int .u8) (Kd.pair Kd.string (Kd.slice 57 kPiece)))) (fun x : Mailing => (x.cls, x.country, x.origin, x.pieces))
theorem kMailing_open {w : World} {x : Mailing} {cs : List Value} (h : kMailing.K w x cs) : ∃ A3 c3, cs = [.int .u8 x.cls, .int .u8 x.country, .string x.origin, .slice A3 x.pieces.length c3] ∧ x.pieces.length ≤ c3 ∧ Kd.C kPiece w A3 x.pieces.length x.pieces := by
  obtain ⟨_, _, rfl, rfl, ⟨_, _, rfl, rfl, ⟨_, _, rfl, rfl, ⟨A3, c3, rfl, l3, g3⟩⟩⟩⟩ := h
  exact ⟨A3, c3, rfl, l3, g3⟩
theorem kMailing_openM {w : World} {base : Nat} {ok : Nat → Prop} {x : Mailing} {cs : List Value} (h : kMailing.M w base ok x cs) : ∃ v3, cs = [.int .u8 x.cls, .int .u8 x.country, .string x.origin, v3] ∧ Kd.R kPiece 57 w base ok v3 x.pieces := by
  obtain ⟨_, _, rfl, rfl, ⟨_, _, rfl, rfl, ⟨_, _, rfl, rfl, ⟨v3, rfl, g3⟩⟩⟩⟩ := h
  exact ⟨v3, rfl, g3⟩
theorem kMailing_mk (w : World) (x : Mailing) {A3 : Option Addr} {c3 : Nat} (l3 : x.pieces.length ≤ c3) (g3 : Kd.C kPiece w A3 x.pieces.length x.pieces) : kMailing.K w x [.int .u8 x.cls, .int .u8 x.country, .string x.origin, .slice A3 x.pieces.length c3] := ⟨[.int .u8 x.cls], [.int .u8 x.country, .string x.origin, .slice A3 x.pieces.length c3], rfl, rfl, ⟨[.int .u8 x.country], [.string x.origin, .slice A3 x.pieces.length c3], rfl, rfl, ⟨[.string x.origin], [.slice A3 x.pieces.length c3], rfl, rfl, ⟨A3, c3, rfl, l3, g3⟩⟩⟩⟩
theorem kMailing_mkM (w : World) (base : Nat) (ok : Nat → Prop) (x : Mailing) {v3 : Value} (g3 : Kd.R kPiece 57 w base ok v3 x.pieces) : kMailing.M w base ok x [.int .u8 x.cls, .int .u8 x.country, .string x.origin, v3] := ⟨[.int .u8 x.cls], [.int .u8 x.country, .string x.origin, v3], rfl, rfl, ⟨[.int .u8 x.country], [.string x.origin, v3], rfl, rfl, ⟨[.string x.origin], [v3], rfl, rfl, ⟨v3, rfl, g3⟩⟩⟩⟩
theorem atMailing {w wr : World} {A : Option Addr} {n : Nat} {xs : List Mailing} (h : Kd.C kMailing w A n xs) (hb : Below w.heap.size w wr) (k : Nat) (hk : k < xs.length) : ∃ g o A3 c3, A = some ⟨g, o, none⟩ ∧ g < w.heap.size ∧ g < wr.heap.size ∧ wr.cell? ⟨g, o + k * 4, none⟩ = some (.int .u8 xs[k].cls) ∧ wr.cell? ⟨g, o + k * 4 + 1, none⟩ = some (.int .u8 xs[k].country) ∧ wr.cell? ⟨g, o + k * 4 + 2, none⟩ = some (.string xs[k].origin) ∧ wr.cell? ⟨g, o + k * 4 + 3, none⟩ = some (.slice A3 xs[k].pieces.length c3) ∧ xs[k].pieces.length ≤ c3 ∧ Kd.C kPiece w A3 xs[k].pieces.length xs[k].pieces := by
  obtain ⟨g, o, c, e, hg, hK, hc⟩ := at_any (d := kMailing) h k hk (by decide)
  obtain ⟨A3, c3, rfl, l3, g3⟩ := kMailing_open hK
  exact ⟨g, o, A3, c3, e, hg, Nat.lt_of_lt_of_le hg hb.size, cell_b hb (hc 0 _ rfl), cell_b hb (hc 1 _ rfl), cell_b hb (hc 2 _ rfl), cell_b hb (hc 3 _ rfl), l3, g3⟩

/-! ### Group -/
def kGroup : Kd Group := Kd.iso (Kd.pair (Kd.int .i64) (Kd.pair Kd.string (Kd.pair (Kd.int .i64) (Kd.slice 3 (Kd.int .i64))))) (fun x : Group => (x.level, x.name, x.up, x.items))
theorem kGroup_open {w : World} {x : Group} {cs : List Value} (h : kGroup.K w x cs) : ∃ A3 c3, cs = [.int .i64 x.level, .string x.name, .int .i64 x.up, .slice A3 x.items.length c3] ∧ x.items.length ≤ c3 ∧ Kd.C (Kd.int .i64) w A3 x.items.length x.items := by
  obtain ⟨_, _, rfl, rfl, ⟨_, _, rfl, rfl, ⟨_, _, rfl, rfl, ⟨A3, c3, rfl, l3, g3⟩⟩⟩⟩ := h
  exact ⟨A3, c3, rfl, l3, g3⟩
theorem kGroup_openM {w : World} {base : Nat} {ok : Nat → Prop} {x : Group} {cs : List Value} (h : kGroup.M w base ok x cs) : ∃ v3, cs = [.int .i64 x.level, .string x.name, .int .i64 x.up, v3] ∧ Kd.R (Kd.int .i64) 3 w base ok v3 x.items := by
  obtain ⟨_, _, rfl, rfl, ⟨_, _, rfl, rfl, ⟨_, _, rfl, rfl, ⟨v3, rfl, g3⟩⟩⟩⟩ := h
  exact ⟨v3, rfl, g3⟩
theorem kGroup_mk (w : World) (x : Group) {A3 : Option Addr} {c3 : Nat} (l3 : x.items.length ≤ c3) (g3 : Kd.C (Kd.int .i64) w A3 x.items.length x.items) : kGroup.K w x [.int .i64 x.level, .string x.name, .int .i64 x.up, .slice A3 x.items.length c3] := ⟨[.int .i64 x.level], [.string x.name, .int .i64 x.up, .slice A3 x.items.length c3], rfl, rfl, ⟨[.string x.name], [.int .i64 x.up, .slice A3 x.items.length c3], rfl, rfl, ⟨[.int .i64 x.up], [.slice A3 x.items.length c3], rfl, rfl, ⟨A3, c3, rfl, l3, g3⟩⟩⟩⟩
theorem kGroup_mkM (w : World) (base : Nat) (ok : Nat → Prop) (x : Group) {v3 : Value} (g3 : Kd.R (Kd.int .i64) 3 w base ok v3 x.items) : kGroup.M w base ok x [.int .i64 x.level, .string x.name, .int .i64 x.up, v3] := ⟨[.int .i64 x.level], [.string x.name, .int .i64 x.up, v3], rfl, rfl, ⟨[.string x.name], [.int .i64 x.up, v3], rfl, rfl, ⟨[.int .i64 x.up], [v3], rfl, rfl, ⟨v3, rfl, g3⟩⟩⟩⟩
theorem atGroup {w wr : World} {A : Option Addr} {n : Nat} {xs : List Group} (h : Kd.C kGroup w A n xs) (hb : Below w.heap.size w wr) (k : Nat) (hk : k < xs.length) : ∃ g o A3 c3, A = some ⟨g, o, none⟩ ∧ g < w.heap.size ∧ g < wr.heap.size ∧ wr.cell? ⟨g, o + k * 4, none⟩ = some (.int .i64 xs[k].level) ∧ wr.cell? ⟨g, o + k * 4 + 1, none⟩ = some (.string xs[k].name) ∧ wr.cell? ⟨g, o + k * 4 + 2, none⟩ = some (.int .i64 xs[k].up) ∧ wr.cell? ⟨g, o + k * 4 + 3, none⟩ = some (.slice A3 xs[k].items.length c3) ∧ xs[k].items.length ≤ c3 ∧ Kd.C (Kd.int .i64) w A3 xs[k].items.length xs[k].items := by
  obtain ⟨g, o, c, e, hg, hK, hc⟩ := at_any (d := kGroup) h k hk (by decide)
  obtain ⟨A3, c3, rfl, l3, g3⟩ := kGroup_open hK
  exact ⟨g, o, A3, c3, e, hg, Nat.lt_of_lt_of_le hg hb.size, cell_b hb (hc 0 _ rfl), cell_b hb (hc 1 _ rfl), cell_b hb (hc 2 _ rfl), cell_b hb (hc 3 _ rfl), l3, g3⟩

/-! ### Bundle -/
def kBundle : Kd Bundle := Kd.iso (Kd.pair (Kd.int .i64) (Kd.pair Kd.string (Kd.pair (Kd.slice 3 (Kd.int .i64)) (Kd.int .i64)))) (fun x : Bundle => (x.level, x.group, x.pieces, x.grams))
theorem kBundle_open {w : World} {x : Bundle} {cs : List Value} (h : kBundle.K w x cs) : ∃ A2 c2, cs = [.int .i64 x.level, .string x.group, .slice A2 x.pieces.length c2, .int .i64 x.grams] ∧ x.pieces.length ≤ c2 ∧ Kd.C (Kd.int .i64) w A2 x.pieces.length x.pieces := by
  obtain ⟨_, _, rfl, rfl, ⟨_, _, rfl, rfl, ⟨_, _, rfl, ⟨A2, c2, rfl, l2, g2⟩, rfl⟩⟩⟩ := h
  exact ⟨A2, c2, rfl, l2, g2⟩
theorem kBundle_openM {w : World} {base : Nat} {ok : Nat → Prop} {x : Bundle} {cs : List Value} (h : kBundle.M w base ok x cs) : ∃ v2, cs = [.int .i64 x.level, .string x.group, v2, .int .i64 x.grams] ∧ Kd.R (Kd.int .i64) 3 w base ok v2 x.pieces := by
  obtain ⟨_, _, rfl, rfl, ⟨_, _, rfl, rfl, ⟨_, _, rfl, ⟨v2, rfl, g2⟩, rfl⟩⟩⟩ := h
  exact ⟨v2, rfl, g2⟩
theorem kBundle_mk (w : World) (x : Bundle) {A2 : Option Addr} {c2 : Nat} (l2 : x.pieces.length ≤ c2) (g2 : Kd.C (Kd.int .i64) w A2 x.pieces.length x.pieces) : kBundle.K w x [.int .i64 x.level, .string x.group, .slice A2 x.pieces.length c2, .int .i64 x.grams] := ⟨[.int .i64 x.level], [.string x.group, .slice A2 x.pieces.length c2, .int .i64 x.grams], rfl, rfl, ⟨[.string x.group], [.slice A2 x.pieces.length c2, .int .i64 x.grams], rfl, rfl, ⟨[.slice A2 x.pieces.length c2], [.int .i64 x.grams], rfl, ⟨A2, c2, rfl, l2, g2⟩, rfl⟩⟩⟩
theorem kBundle_mkM (w : World) (base : Nat) (ok : Nat → Prop) (x : Bundle) {v2 : Value} (g2 : Kd.R (Kd.int .i64) 3 w base ok v2 x.pieces) : kBundle.M w base ok x [.int .i64 x.level, .string x.group, v2, .int .i64 x.grams] := ⟨[.int .i64 x.level], [.string x.group, v2, .int .i64 x.grams], rfl, rfl, ⟨[.string x.group], [v2, .int .i64 x.grams], rfl, rfl, ⟨[v2], [.int .i64 x.grams], rfl, ⟨v2, rfl, g2⟩, rfl⟩⟩⟩
theorem atBundle {w wr : World} {A : Option Addr} {n : Nat} {xs : List Bundle} (h : Kd.C kBundle w A n xs) (hb : Below w.heap.size w wr) (k : Nat) (hk : k < xs.length) : ∃ g o A2 c2, A = some ⟨g, o, none⟩ ∧ g < w.heap.size ∧ g < wr.heap.size ∧ wr.cell? ⟨g, o + k * 4, none⟩ = some (.int .i64 xs[k].level) ∧ wr.cell? ⟨g, o + k * 4 + 1, none⟩ = some (.string xs[k].group) ∧ wr.cell? ⟨g, o + k * 4 + 2, none⟩ = some (.slice A2 xs[k].pieces.length c2) ∧ wr.cell? ⟨g, o + k * 4 + 3, none⟩ = some (.int .i64 xs[k].grams) ∧ xs[k].pieces.length ≤ c2 ∧ Kd.C (Kd.int .i64) w A2 xs[k].pieces.length xs[k].pieces := by
  obtain ⟨g, o, c, e, hg, hK, hc⟩ := at_any (d := kBundle) h k hk (by decide)
  obtain ⟨A2, c2, rfl, l2, g2⟩ := kBundle_open hK
  exact ⟨g, o, A2, c2, e, hg, Nat.lt_of_lt_of_le hg hb.size, cell_b hb (hc 0 _ rfl), cell_b hb (hc 1 _ rfl), cell_b hb (hc 2 _ rfl), cell_b hb (hc 3 _ rfl), l2, g2⟩

/-! ### Tray -/
def kTray : Kd Tray := Kd.iso (Kd.pair (Kd.int .i64) (Kd.pair Kd.string (Kd.slice 3 (Kd.int .i64)))) (fun x : Tray => (x.level, x.group, x.bundles))
theorem kTray_open {w : World} {x : Tray} {cs : List Value} (h : kTray.K w x cs) : ∃ A2 c2, cs = [.int .i64 x.level, .string x.group, .slice A2 x.bundles.length c2] ∧ x.bundles.length ≤ c2 ∧ Kd.C (Kd.int .i64) w A2 x.bundles.length x.bundles := by
  obtain ⟨_, _, rfl, rfl, ⟨_, _, rfl, rfl, ⟨A2, c2, rfl, l2, g2⟩⟩⟩ := h
  exact ⟨A2, c2, rfl, l2, g2⟩
theorem kTray_openM {w : World} {base : Nat} {ok : Nat → Prop} {x : Tray} {cs : List Value} (h : kTray.M w base ok x cs) : ∃ v2, cs = [.int .i64 x.level, .string x.group, v2] ∧ Kd.R (Kd.int .i64) 3 w base ok v2 x.bundles := by
  obtain ⟨_, _, rfl, rfl, ⟨_, _, rfl, rfl, ⟨v2, rfl, g2⟩⟩⟩ := h
  exact ⟨v2, rfl, g2⟩
theorem kTray_mk (w : World) (x : Tray) {A2 : Option Addr} {c2 : Nat} (l2 : x.bundles.length ≤ c2) (g2 : Kd.C (Kd.int .i64) w A2 x.bundles.length x.bundles) : kTray.K w x [.int .i64 x.level, .string x.group, .slice A2 x.bundles.length c2] := ⟨[.int .i64 x.level], [.string x.group, .slice A2 x.bundles.length c2], rfl, rfl, ⟨[.string x.group], [.slice A2 x.bundles.length c2], rfl, rfl, ⟨A2, c2, rfl, l2, g2⟩⟩⟩
theorem kTray_mkM (w : World) (base : Nat) (ok : Nat → Prop) (x : Tray) {v2 : Value} (g2 : Kd.R (Kd.int .i64) 3 w base ok v2 x.bundles) : kTray.M w base ok x [.int .i64 x.level, .string x.group, v2] := ⟨[.int .i64 x.level], [.string x.group, v2], rfl, rfl, ⟨[.string x.group], [v2], rfl, rfl, ⟨v2, rfl, g2⟩⟩⟩
theorem atTray {w wr : World} {A : Option Addr} {n : Nat} {xs : List Tray} (h : Kd.C kTray w A n xs) (hb : Below w.heap.size w wr) (k : Nat) (hk : k < xs.length) : ∃ g o A2 c2, A = some ⟨g, o, none⟩ ∧ g < w.heap.size ∧ g < wr.heap.size ∧ wr.cell? ⟨g, o + k * 3, none⟩ = some (.int .i64 xs[k].level) ∧ wr.cell? ⟨g, o + k * 3 + 1, none⟩ = some (.string xs[k].group) ∧ wr.cell? ⟨g, o + k * 3 + 2, none⟩ = some (.slice A2 xs[k].bundles.length c2) ∧ xs[k].bundles.length ≤ c2 ∧ Kd.C (Kd.int .i64) w A2 xs[k].bundles.length xs[k].bundles := by
  obtain ⟨g, o, c, e, hg, hK, hc⟩ := at_any (d := kTray) h k hk (by decide)
  obtain ⟨A2, c2, rfl, l2, g2⟩ := kTray_open hK
  exact ⟨g, o, A2, c2, e, hg, Nat.lt_of_lt_of_le hg hb.size, cell_b hb (hc 0 _ rfl), cell_b hb (hc 1 _ rfl), cell_b hb (hc 2 _ rfl), l2, g2⟩

/-! ### Container -/
def kContainer : Kd Container := Kd.iso (Kd.pair (Kd.int .i64) (Kd.slice 3 (Kd.int .i64))) (fun x : Container => (x.level, x.trays))
theorem kContainer_open {w : World} {x : Container} {cs : List Value} (h : kContainer.K w x cs) : ∃ A1 c1, cs = [.int .i64 x.level, .slice A1 x.trays.length c1] ∧ x.trays.length ≤ c1 ∧ Kd.C (Kd.int .i64) w A1 x.trays.length x.trays := by
  obtain ⟨_, _, rfl, rfl, ⟨A1, c1, rfl, l1, g1⟩⟩ := h
  exact ⟨A1, c1, rfl, l1, g1⟩
theorem kContainer_openM {w : World} {base : Nat} {ok : Nat → Prop} {x : Container} {cs : List Value} (h : kContainer.M w base ok x cs) : ∃ v1, cs = [.int .i64 x.level, v1] ∧ Kd.R (Kd.int .i64) 3 w base ok v1 x.trays := by
  obtain ⟨_, _, rfl, rfl, ⟨v1, rfl, g1⟩⟩ := h
  exact ⟨v1, rfl, g1⟩
theorem kContainer_mk (w : World) (x : Container) {A1 : Option Addr} {c1 : Nat} (l1 : x.trays.length ≤ c1) (g1 : Kd.C (Kd.int .i64) w A1 x.trays.length x.trays) : kContainer.K w x [.int .i64 x.level, .slice A1 x.trays.length c1] := ⟨[.int .i64 x.level], [.slice A1 x.trays.length c1], rfl, rfl, ⟨A1, c1, rfl, l1, g1⟩⟩
theorem kContainer_mkM (w : World) (base : Nat) (ok : Nat → Prop) (x : Container) {v1 : Value} (g1 : Kd.R (Kd.int .i64) 3 w base ok v1 x.trays) : kContainer.M w base ok x [.int .i64 x.level, v1] := ⟨[.int .i64 x.level], [v1], rfl, rfl, ⟨v1, rfl, g1⟩⟩
theorem atContainer {w wr : World} {A : Option Addr} {n : Nat} {xs : List Container} (h : Kd.C kContainer w A n xs) (hb : Below w.heap.size w wr) (k : Nat) (hk : k < xs.length) : ∃ g o A1 c1, A = some ⟨g, o, none⟩ ∧ g < w.heap.size ∧ g < wr.heap.size ∧ wr.cell? ⟨g, o + k * 2, none⟩ = some (.int .i64 xs[k].level) ∧ wr.cell? ⟨g, o + k * 2 + 1, none⟩ = some (.slice A1 xs[k].trays.length c1) ∧ xs[k].trays.length ≤ c1 ∧ Kd.C (Kd.int .i64) w A1 xs[k].trays.length xs[k].trays := by
  obtain ⟨g, o, c, e, hg, hK, hc⟩ := at_any (d := kContainer) h k hk (by decide)
  obtain ⟨A1, c1, rfl, l1, g1⟩ := kContainer_open hK
  exact ⟨g, o, A1, c1, e, hg, Nat.lt_of_lt_of_le hg hb.size, cell_b hb (hc 0 _ rfl), cell_b hb (hc 1 _ rfl), l1, g1⟩

/-! ### Load -/
/-! ### Packing -/
def kPacking : Kd Packing := Kd.iso (Kd.pair (Kd.int .i64) (Kd.pair (Kd.int .i64) (Kd.pair (Kd.int .i64) (Kd.int .i64)))) (fun x : Packing => (x.pieces, x.grams, x.bundles, x.trays))
theorem kPacking_open {w : World} {x : Packing} {cs : List Value} (h : kPacking.K w x cs) : cs = [.int .i64 x.pieces, .int .i64 x.grams, .int .i64 x.bundles, .int .i64 x.trays] := by
  obtain ⟨_, _, rfl, rfl, ⟨_, _, rfl, rfl, ⟨_, _, rfl, rfl, rfl⟩⟩⟩ := h
  exact rfl
theorem kPacking_openM {w : World} {base : Nat} {ok : Nat → Prop} {x : Packing} {cs : List Value} (h : kPacking.M w base ok x cs) : cs = [.int .i64 x.pieces, .int .i64 x.grams, .int .i64 x.bundles, .int .i64 x.trays] := by
  obtain ⟨_, _, rfl, rfl, ⟨_, _, rfl, rfl, ⟨_, _, rfl, rfl, rfl⟩⟩⟩ := h
  exact rfl
theorem kPacking_mk (w : World) (x : Packing) : kPacking.K w x [.int .i64 x.pieces, .int .i64 x.grams, .int .i64 x.bundles, .int .i64 x.trays] := ⟨[.int .i64 x.pieces], [.int .i64 x.grams, .int .i64 x.bundles, .int .i64 x.trays], rfl, rfl, ⟨[.int .i64 x.grams], [.int .i64 x.bundles, .int .i64 x.trays], rfl, rfl, ⟨[.int .i64 x.bundles], [.int .i64 x.trays], rfl, rfl, rfl⟩⟩⟩
theorem kPacking_mkM (w : World) (base : Nat) (ok : Nat → Prop) (x : Packing) : kPacking.M w base ok x [.int .i64 x.pieces, .int .i64 x.grams, .int .i64 x.bundles, .int .i64 x.trays] := ⟨[.int .i64 x.pieces], [.int .i64 x.grams, .int .i64 x.bundles, .int .i64 x.trays], rfl, rfl, ⟨[.int .i64 x.grams], [.int .i64 x.bundles, .int .i64 x.trays], rfl, rfl, ⟨[.int .i64 x.bundles], [.int .i64 x.trays], rfl, rfl, rfl⟩⟩⟩
theorem atPacking {w wr : World} {A : Option Addr} {n : Nat} {xs : List Packing} (h : Kd.C kPacking w A n xs) (hb : Below w.heap.size w wr) (k : Nat) (hk : k < xs.length) : ∃ g o, A = some ⟨g, o, none⟩ ∧ g < w.heap.size ∧ g < wr.heap.size ∧ wr.cell? ⟨g, o + k * 4, none⟩ = some (.int .i64 xs[k].pieces) ∧ wr.cell? ⟨g, o + k * 4 + 1, none⟩ = some (.int .i64 xs[k].grams) ∧ wr.cell? ⟨g, o + k * 4 + 2, none⟩ = some (.int .i64 xs[k].bundles) ∧ wr.cell? ⟨g, o + k * 4 + 3, none⟩ = some (.int .i64 xs[k].trays) := by
  obtain ⟨g, o, c, e, hg, hK, hc⟩ := at_any (d := kPacking) h k hk (by decide)
  obtain rfl := kPacking_open hK
  exact ⟨g, o, e, hg, Nat.lt_of_lt_of_le hg hb.size, cell_b hb (hc 0 _ rfl), cell_b hb (hc 1 _ rfl), cell_b hb (hc 2 _ rfl), cell_b hb (hc 3 _ rfl)⟩

/-! ### Slices of numbers, of texts, of slices -/
theorem atInt {w wr : World} {A : Option Addr} {n : Nat} {xs : List Int} {q : IntKind} (h : Kd.C (Kd.int q) w A n xs) (hb : Below w.heap.size w wr) (k : Nat) (hk : k < xs.length) : ∃ g o, A = some ⟨g, o, none⟩ ∧ g < w.heap.size ∧ g < wr.heap.size ∧ wr.cell? ⟨g, o + k, none⟩ = some (.int q xs[k]) := by
  obtain ⟨g, o, c, e, hg, hK, hc⟩ := at_any h k hk Nat.one_pos
  obtain rfl : c = [.int q xs[k]] := hK
  have := hc 0 _ rfl
  rw [show (Kd.int q).sz = 1 from rfl, Nat.mul_one] at this
  exact ⟨g, o, e, hg, Nat.lt_of_lt_of_le hg hb.size, cell_b hb this⟩
theorem atStr {w wr : World} {A : Option Addr} {n : Nat} {xs : List ByteArray} (h : Kd.C Kd.string w A n xs) (hb : Below w.heap.size w wr) (k : Nat) (hk : k < xs.length) : ∃ g o, A = some ⟨g, o, none⟩ ∧ g < w.heap.size ∧ g < wr.heap.size ∧ wr.cell? ⟨g, o + k, none⟩ = some (.string xs[k]) := by
  obtain ⟨g, o, c, e, hg, hK, hc⟩ := at_any h k hk Nat.one_pos
  obtain rfl : c = [.string xs[k]] := hK
  have := hc 0 _ rfl
  rw [show Kd.string.sz = 1 from rfl, Nat.mul_one] at this
  exact ⟨g, o, e, hg, Nat.lt_of_lt_of_le hg hb.size, cell_b hb this⟩
theorem atRow {α : Type} {d : Kd α} {e : Nat} {w wr : World} {A : Option Addr} {n : Nat} {xs : List (List α)} (h : Kd.C (Kd.slice e d) w A n xs) (hb : Below w.heap.size w wr) (k : Nat) (hk : k < xs.length) : ∃ g o A0 c0, A = some ⟨g, o, none⟩ ∧ g < w.heap.size ∧ g < wr.heap.size ∧ wr.cell? ⟨g, o + k, none⟩ = some (.slice A0 xs[k].length c0) ∧ xs[k].length ≤ c0 ∧ d.C w A0 xs[k].length xs[k] := by
  obtain ⟨g, o, c, he, hg, hK, hc⟩ := at_any h k hk Nat.one_pos
  obtain ⟨A0, c0, rfl, l0, g0⟩ := hK
  have := hc 0 _ rfl
  rw [show (Kd.slice e d).sz = 1 from rfl, Nat.mul_one] at this
  exact ⟨g, o, A0, c0, he, hg, Nat.lt_of_lt_of_le hg hb.size, cell_b hb this, l0, g0⟩
end Go.Proofs.YtejmlkfdkodabaaDoor
namespace Go.Proofs.YtejmlkfdkodabaaDoor
open Go.RowKit LB Go.Proofs.YtejmlkfdkodabaaDoorW.PrintWords

theorem hid_ {p : Prop} (h : p) : Hid p := h
theorem ret_bool {a b : Bool} (h : a = b) : Ending.returned (.bool a) = .returned (.bool b) := by rw [h]
theorem ret_int {k : IntKind} {a b : Int} (h : a = b) : Ending.returned (.int k a) = .returned (.int k b) := by rw [h]
theorem ret_str {a b : ByteArray} (h : a = b) : Ending.returned (.string a) = .returned (.string b) := by rw [h]
theorem ret_val {a b : Value} (h : a = b) : Ending.returned a = .returned b := by rw [h]

theorem all_take_succ {α : Type} {l : List α} {p : α → Bool} {k : Nat} (h : k < l.length) : (l.take (k + 1)).all p = ((l.take k).all p && p l[k]) := by
  rw [List.take_succ_eq_append_getElem h, List.all_append]; simp
theorem any_take_succ {α : Type} {l : List α} {p : α → Bool} {k : Nat} (h : k < l.length) : (l.take (k + 1)).any p = ((l.take k).any p || p l[k]) := by
  rw [List.take_succ_eq_append_getElem h, List.any_append]; simp
theorem all_next {α : Type} {l : List α} {p : α → Bool} {k : Nat} (h : k < l.length) (ha : (l.take k).all p = true) (hp : p l[k] = true) : (l.take (k + 1)).all p = true := by rw [all_take_succ h, ha, hp]; rfl
theorem all_false_at {α : Type} {l : List α} {p : α → Bool} {k : Nat} (h : k < l.length) (hp : p l[k] = false) : l.all p = false := by
  rw [List.all_eq_false]
  exact ⟨l[k], List.getElem_mem h, by simp [hp]⟩
theorem all_of_take {α : Type} {l : List α} {p : α → Bool} {k : Nat} (h : l.length ≤ k) (ha : (l.take k).all p = true) : l.all p = true := by rwa [List.take_of_length_le h] at ha
theorem any_true_at {α : Type} {l : List α} {p : α → Bool} {k : Nat} (h : k < l.length) (hp : p l[k] = true) : l.any p = true := List.any_eq_true.2 ⟨l[k], List.getElem_mem h, hp⟩
theorem any_of_take {α : Type} {l : List α} {p : α → Bool} {k : Nat} (h : l.length ≤ k) (ha : (l.take k).any p = false) : l.any p = false := by rwa [List.take_of_length_le h] at ha
theorem find_at {α : Type} {l : List α} {p : α → Bool} {k : Nat} (h : k < l.length) (ha : (l.take k).any p = false) (hp : p l[k] = true) : l.find? p = some l[k] := by
  rw [List.find?_eq_some_iff_append]
  refine ⟨hp, l.take k, l.drop (k + 1), ?_, fun a hm => ?_⟩
  · rw [List.getElem_cons_drop, List.take_append_drop]
  · rw [List.any_eq_false] at ha
    simpa using ha a hm
theorem find_none {α : Type} {l : List α} {p : α → Bool} (ha : l.any p = false) : l.find? p = none := by
  rw [List.find?_eq_none]
  rw [List.any_eq_false] at ha
  exact ha
theorem bytes_len (s : ByteArray) : s.data.toList.length = s.size := by simp
theorem bytes_get (s : ByteArray) (k : Nat) (h : k < s.size) : s.data.toList[k]'(by simpa using h) = s[k] := by rw [Array.getElem_toList]; rfl
theorem size_nn (n : Nat) : 0 ≤ (n : Int) := by omega

/-- A callee that leaves the world alone, in a region that draws its order and only reads. -/
theorem quiet_same {P : Program} {f : FuncId} {args : Array Value} {w : World} {n : Nat} {v : Value} (h : Calls P f args (w.drewN n) fun e w' => e = .returned v ∧ w.drewN n = w') : Calls P f args (w.drewN n) fun e w'' => e = .returned v ∧ ∃ m, w'' = w.drewN m :=
  h.mono fun _ _ ⟨he, hm⟩ => ⟨he, n, hm.symm⟩
/-- A later world: what there was is as it was; blocks may have been laid, orders drawn. -/
structure Later (w : World) where
  W : World
  below : Below w.heap.size w W
instance (w : World) : Nonempty (Later w) := ⟨⟨w, Below.refl _ _⟩⟩
theorem wp_region_later {P : Program} {id : Nat} {Q : Exit → Act → World → Prop} {a : Act} {w : World} {l : List Oper} (hm : P.follows .mixedOrders = true) (hB : Region.lexB .any l.toArray = true)
    (h : wpQuiet P l.toArray (fun w' => ∃ p : Later w, w' = p.W) (fun a' => ∀ w', (∃ p : Later w, w' = p.W) → Q .normal a' w') l a) : (Code.region id l.toArray true).wp P Q a w :=
  wp_region_quiet (C := fun w' => ∃ p : Later w, w' = p.W) hm hB ⟨⟨_, below_drew (Below.refl _ _)⟩, rfl⟩ (by simpa using h)
/-- A callee that makes memory of its own, in such a region. -/
theorem later_of {P : Program} {f : FuncId} {args : Array Value} {w : World} {p : Later w} {v : Value} (h : Calls P f args p.W fun e w' => e = .returned v ∧ Below p.W.heap.size p.W w') : Calls P f args p.W fun e w'' => e = .returned v ∧ ∃ q : Later w, w'' = q.W :=
  h.mono fun _ w'' ⟨he, hb⟩ => ⟨he, ⟨w'', below_then p.below p.below.size hb⟩, rfl⟩
theorem later_same {P : Program} {f : FuncId} {args : Array Value} {w : World} {p : Later w} {v : Value} (h : Calls P f args p.W fun e w' => e = .returned v ∧ p.W = w') : Calls P f args p.W fun e w'' => e = .returned v ∧ ∃ q : Later w, w'' = q.W :=
  h.mono fun _ _ ⟨he, hb⟩ => ⟨he, p, hb.symm⟩
theorem laterCell {w : World} {a : Addr} {v : Value} (h : w.cell? a = some v) (p : Later w) : p.W.cell? a = some v := pw_cell_below p.below h
theorem below_alloc' {w W : World} (h : Below w.heap.size w W) (o : Obj) : Below w.heap.size w (W.alloc o) := h.alloc h.size o
theorem blk_new2 (w : World) (o1 o2 : Obj) : ((w.alloc o1).alloc o2).heap[w.heap.size + 1]? = some o2 := by
  have h := blk_new (w.alloc o1) o2
  rwa [show (w.alloc o1).heap.size = w.heap.size + 1 from by simp] at h
theorem laterC {α : Type} {d : Kd α} {w wr : World} {A : Option Addr} {n : Nat} {xs : List α} (h : Kd.C d w A n xs) (hb : Below w.heap.size w wr) (p : Later wr) : Kd.C d p.W A n xs := Kd.C_below (Kd.C_below h hb) p.below
/-- A box's cells. -/
theorem boxAt {w : World} {g : Nat} {t : TypeId} {cs : Array Value} (h : w.heap[g]? = some (.cells cs t (0, 0))) (i : Nat) {v : Value} (hi : cs[i]? = some v) : w.cell? ⟨g, i, none⟩ = some v := (blk_cell h i).trans hi
/-- What was known of an old cell is known in a later world. -/
theorem cellB {w w1 : World} (h : Below w.heap.size w w1) {a : Addr} {v : Value} (hc : w.cell? a = some v) : w1.cell? a = some v := pw_cell_below h hc
end Go.Proofs.YtejmlkfdkodabaaDoor
namespace Go.Proofs.YtejmlkfdkodabaaDoor
open Go.RowKit LB Go.Proofs.YtejmlkfdkodabaaDoorW.PrintWords

/-! ### texts -/
theorem codeCh_iff (b : UInt8) : codeCh b = true ↔ (65 ≤ b.toNat ∧ b.toNat ≤ 90) ∨ (48 ≤ b.toNat ∧ b.toNat ≤ 57) := by
  unfold codeCh
  simp [UInt8.le_iff_toNat_le]
theorem nameCh_iff (b : UInt8) : nameCh b = true ↔ 33 ≤ b.toNat ∧ b.toNat ≤ 126 := by
  unfold nameCh
  simp [UInt8.le_iff_toNat_le]
theorem namedS_val {s : ByteArray} (h : s.data.toList.all nameCh = true) : namedS s = (decide (1 ≤ s.size) && decide (s.size ≤ 20)) := by
  unfold namedS
  rw [h, Bool.true_and]
theorem codeS_val (s : ByteArray) : codeS s = (decide (1 ≤ s.size) && (decide (s.size ≤ 10) && plainS s)) := rfl
/-! ### groups -/
theorem groupL_at {ls : List Label} {p : ByteArray} {k : Nat} (h : k < ls.length) (ha : (ls.take k).any (fun x => eqS x.pre p) = false) (hp : eqS ls[k].pre p = true) : groupL ls p = ls[k].grp := by
  unfold groupL
  rw [find_at h ha hp]
theorem groupL_none {ls : List Label} {p : ByteArray} (ha : ls.any (fun x => eqS x.pre p) = false) : groupL ls p = p := by
  unfold groupL
  rw [find_none ha]
/-! ### a level by itself -/
def lvl (l : Level) (A : Option Addr) (c : Nat) : Value := .agg #[.string l.name, .int .i64 l.pre, .slice A l.labels.length c, .int .i64 l.min, .int .i64 l.cents]
end Go.Proofs.YtejmlkfdkodabaaDoor
