/- Texts of one proof put together. presort.build: the tables of a group above the first level. presort.build: the tables of a group at the first level. Its tail is printed by gen_low.py out of XBuild's. -/
import Derived.Test.YtejmlkfdkodabaaDoorQxi
import Derived.Deep.RegionHeld3
import Derived.StillTailTactics
import Derived.BigRegion
namespace Go.Proofs.YtejmlkfdkodabaaDoor
open Go.RowKit LB Go.Maps Go.Sort Go.ChangeShapes Go.Shelf Go.Proofs.YtejmlkfdkodabaaDoorW.PrintWords
attribute [local go_sem] Oper.semAt_some

theorem infoRows : (Tryd.prog.info? 38).map (fun i => (i.zero, i.size, i.bytes)) = some (some (.slice none 0 0), 1, 24) := by kernel_rfl
theorem four_boxes (w : World) (a b c d : Obj) : (((((w.alloc a).alloc b).alloc c).alloc d)).heap.size = w.heap.size + 4 ∧ Below w.heap.size w ((((w.alloc a).alloc b).alloc c).alloc d) ∧ ((((w.alloc a).alloc b).alloc c).alloc d).heap[w.heap.size]? = some a ∧ ((((w.alloc a).alloc b).alloc c).alloc d).heap[w.heap.size + 1]? = some b ∧ ((((w.alloc a).alloc b).alloc c).alloc d).heap[w.heap.size + 1 + 1]? = some c ∧ ((((w.alloc a).alloc b).alloc c).alloc d).heap[w.heap.size + 1 + 1 + 1]? = some d := by
  have h1 : (w.alloc a).heap.size = w.heap.size + 1 := by simp
  have h2 : ((w.alloc a).alloc b).heap.size = w.heap.size + 2 := by simp
  have h3 : (((w.alloc a).alloc b).alloc c).heap.size = w.heap.size + 3 := by simp
  have l : ∀ (W : World) (o : Obj), Below W.heap.size W (W.alloc o) := fun W o => (Below.refl _ _).alloc (Nat.le_refl _) o
  have n : ∀ (W : World) (o : Obj) (k : Nat), W.heap.size = k → (W.alloc o).heap[k]? = some o := fun W o k e => by rw [← e]; exact World.alloc_heap_new W o
  have k : ∀ (W : World) (o : Obj) (j : Nat) (x : Obj), W.heap[j]? = some x → (W.alloc o).heap[j]? = some x := fun W o j x e => ((l W o).block j (Array.getElem?_eq_some_iff.1 e).1).trans e
  refine ⟨by simp, ((((Below.refl w.heap.size w).alloc (Nat.le_refl _) a).alloc (by omega) b).alloc (by omega) c).alloc (by omega) d, k _ _ _ _ (k _ _ _ _ (k _ _ _ _ (n w a _ rfl))), k _ _ _ _ (k _ _ _ _ (n _ b _ h1)), k _ _ _ _ (n _ c _ h2), n _ d _ h3⟩
theorem held_one (W : World) (x : Int) {T : Nat} (hT : T < W.heap.size) : Held (W.alloc (.cells #[.int .i64 x] 3)) T [x] (.slice (some ⟨W.heap.size, 0, none⟩) 1 1) := by
  have h : BelIs (W.alloc (.cells #[.int .i64 x] 3)) W.heap.size 1 (fun _ => x) := by
    refine ⟨_, blk_new W _, by simp, fun i hi => ?_⟩
    obtain rfl : i = 0 := by omega
    rfl
  refine held_of_bel (zs := [x]) h (fun i hi => ?_) hT (by simp) (by simp)
  obtain rfl : i = 0 := by simpa using hi
  rfl
/-- What is known of the rests when the subgroups in pre have come. -/
def RestOk (n : Nat → Nat) (bt : Nat → List Int) (subs : List Nat) (pre : List (Pair (subs.map ofN))) (xs : Nat → List Int) : Prop :=
  (∀ j, j ≤ subs.length → Okt (xs j) ∧ Most (((subs.length - j : Nat) : Int) * 12000000000) (xs j) ∧ (xs j).length ≤ sumOf (fun c => n c + 1) (subs.drop j) + 1) ∧
  (pre.map (·.1) <+: uptoB (subs.map ofN) subs.length → ∀ j, subs.length - pre.length ≤ j → j ≤ subs.length → xs j = comeS ((subs.drop j).map bt))
theorem sumOf_mem {n : Nat → Nat} : ∀ {l : List Nat} {c : Nat}, c ∈ l → n c ≤ sumOf n l
  | d :: r, c, h => by
    rw [sumOf]
    rcases List.mem_cons.1 h with rfl | h
    · omega
    · have := sumOf_mem (n := n) h; omega
theorem sumOf_drop (n : Nat → Nat) : ∀ (l : List Nat) (j : Nat), sumOf n (l.drop j) ≤ sumOf n l
  | [], j => by simp
  | c :: r, 0 => Nat.le_refl _
  | c :: r, j + 1 => by
    rw [List.drop_succ_cons, sumOf]
    have := sumOf_drop n r j
    omega
theorem sumOf_len {n : Nat → Nat} : ∀ {l : List Nat}, (∀ c ∈ l, 1 ≤ n c) → l.length ≤ sumOf n l
  | [], _ => Nat.zero_le _
  | c :: r, h => by
    have h1 := h c List.mem_cons_self
    have h2 := sumOf_len (n := n) (l := r) fun d hd => h d (List.mem_cons_of_mem _ hd)
    rw [sumOf, List.length_cons]
    omega
theorem sumOf_one_more (n : Nat → Nat) : ∀ l : List Nat, sumOf (fun c => n c + 1) l = sumOf n l + l.length
  | [] => rfl
  | c :: r => by rw [sumOf, sumOf, sumOf_one_more n r, List.length_cons]; omega
theorem most_le {A B : Int} {a : List Int} (h : Most A a) (hAB : A ≤ B) : Most B a := fun x hx => Int.le_trans (h x hx) hAB
theorem tabF_most {K n : Nat} {t : List Int} (h : TabF K n 1000000 t) (hK : K ≤ 6) (hn : n ≤ 2000) : Most 12000000000 t := by
  refine most_le h.most ?_
  have h1 : K * n ≤ 6 * 2000 := Nat.mul_le_mul hK hn
  omega
theorem RestOk.step {n : Nat → Nat} {bt : Nat → List Int} {subs : List Nat} {pre : List (Pair (subs.map ofN))} {xs : Nat → List Int} {K : Nat} (h : RestOk n bt subs pre xs) (hb : ∀ c ∈ subs, TabF K (n c) 1000000 (bt c)) (hK : K ≤ 6) (hsum : sumOf n subs ≤ 2000) (x : Pair (subs.map ofN)) {k : Nat} (hk : k < subs.length) (hx : x.1.1 = k) (hlen : pre.length < subs.length) :
    RestOk n bt subs (pre ++ [x]) (fun j => if j = k then mergeS (bt subs[k]) (xs (k + 1)) else xs j) := by
  obtain ⟨h1, h2⟩ := h
  have hc := hb subs[k] (List.getElem_mem hk)
  have hn := sumOf_mem (n := n) (List.getElem_mem hk)
  refine ⟨fun j hj => ?_, fun hp j hj1 hj2 => ?_⟩
  · show Okt (if _ then _ else _) ∧ Most _ (if _ then _ else _) ∧ (if _ then _ else _ : List Int).length ≤ _
    split
    · rename_i e
      subst e
      obtain ⟨a1, a2, a3⟩ := h1 (j + 1) (by omega)
      refine ⟨mergeS_ok hc.ok a1, ?_, ?_⟩
      · have h3 := mergeS_most (tabF_most hc hK (by omega)) a2 (by decide) (Int.mul_nonneg (by omega) (by decide))
        refine most_le h3 ?_
        rw [show subs.length - j = (subs.length - (j + 1)) + 1 from by omega]
        omega
      · rw [mergeS_len, hc.len, List.drop_eq_getElem_cons hk, sumOf]
        omega
    · exact h1 j hj
  · rw [List.map_append, List.map_cons, List.map_nil] at hp
    obtain ⟨t, ht⟩ := hp
    rw [List.append_assoc] at ht
    have hget : (uptoB (subs.map ofN) subs.length)[pre.length]? = some x.1 := by
      rw [← ht, List.getElem?_append_right (by simp)]
      simp
    have hr : x.1.1 = subs.length - 1 - pre.length := by
      unfold uptoB at hget
      rw [List.getElem?_map, List.getElem?_range hlen] at hget
      simp only [Option.map_some, Option.some.injEq, List.length_map] at hget
      rw [← hget]
    rw [List.length_append, List.length_singleton] at hj1
    have hold := h2 ⟨[x.1] ++ t, ht⟩
    show (if j = k then _ else _) = _
    by_cases e : j = k
    · subst e
      rw [if_pos rfl, hold (j + 1) (by omega) (by omega), List.drop_eq_getElem_cons hk, List.map_cons, comeS_cons]
    · rw [if_neg e]
      exact hold j (by omega) hj2
/-- What build's walk over the subgroups carries: the table of tables, the boxes, the row of rests. -/
structure BInv (w : World) (T m G s : Nat) (f : Nat → Value) (c0 c2 c3 : Array Value) (xs : Nat → List Int) (W : World) : Prop where
  grown : w.grownBy W (some T)
  tab : BlkIs W T 79 (3 * m) f
  box0 : W.heap[w.heap.size]? = some (.cells c0 76 (0, 0))
  box2 : W.heap[w.heap.size + 1 + 1]? = some (.cells c2 41 (0, 0))
  box3 : W.heap[w.heap.size + 1 + 1 + 1]? = some (.cells c3 81 (0, 0))
  rest : ∃ u, BlkIs W G 38 (s + 1) u ∧ ∀ j, j ≤ s → Held W T (xs j) (u j)
theorem BInv.below {w : World} {T m G s : Nat} {f : Nat → Value} {c0 c2 c3 : Array Value} {xs : Nat → List Int} {W W' : World} (h : BInv w T m G s f c0 c2 c3 xs W) (hB : Below W.heap.size W W') : BInv w T m G s f c0 c2 c3 xs W' := by
  obtain ⟨h1, h2, h3, h4, h5, u, h6, h7⟩ := h
  exact ⟨grown_then h1 hB, h2.below hB, blk_below h3 hB, blk_below h4 hB, blk_below h5 hB, u, h6.below hB, fun j hj => (h7 j hj).below hB⟩
theorem BInv.own {w : World} {T m G s B : Nat} {f : Nat → Value} {c0 c2 c3 : Array Value} {xs : Nat → List Int} {W W' : World} {row : Option Nat} (hB : w.heap.size ≤ B) (h : BInv w T m G s f c0 c2 c3 xs W) (hg : W.grownBy W' row) (hr : ∀ r, row = some r → B ≤ r ∧ ∃ o : Obj, W.heap[r]? = some o ∧ o.isCells = false) : BInv w T m G s f c0 c2 c3 xs W' := by
  have keep : ∀ (k : Nat) (cells : Array Value) (ty : TypeId), W.heap[k]? = some (Obj.cells cells ty (0, 0)) → W'.heap[k]? = W.heap[k]? := fun k cells ty hk => hg.block k (Array.getElem?_eq_some_iff.1 hk).1 (fun e => by
    obtain ⟨_, o, ho, hc⟩ := hr k e.symm
    rw [hk] at ho
    injection ho with ho
    rw [← ho] at hc
    exact Bool.noConfusion hc)
  obtain ⟨h1, h2, h3, h4, h5, u, h6, h7⟩ := h
  refine ⟨h1.andThen hg (fun j e => .inl (Nat.le_trans hB (hr j e).1)), ?_, (keep _ _ _ h3).trans h3, (keep _ _ _ h4).trans h4, (keep _ _ _ h5).trans h5, u, ?_, fun j hj => (h7 j hj).keep (fun g cells _ hg => (keep g cells _ hg).trans hg)⟩
  · obtain ⟨cells, e1, e2, e3⟩ := h2
    exact ⟨cells, (keep _ _ _ e1).trans e1, e2, e3⟩
  · obtain ⟨cells, e1, e2, e3⟩ := h6
    exact ⟨cells, (keep _ _ _ e1).trans e1, e2, e3⟩
/-- A store into the row of rests. -/
theorem BInv.put {w : World} {T m G s : Nat} {f : Nat → Value} {c0 c2 c3 : Array Value} {xs : Nat → List Int} {W : World} (h : BInv w T m G s f c0 c2 c3 xs W) (hG : w.heap.size + 1 + 1 + 1 < G) (hT : T < G) {k : Nat} (hk : k ≤ s) {v : Value} {zs : List Int} (hv : Held W T zs v) : BInv w T m G s f c0 c2 c3 (fun j => if j = k then zs else xs j) (W.setCell ⟨G, k, none⟩ v) := by
  obtain ⟨h1, h2, h3, h4, h5, u, h6, h7⟩ := h
  have far : ∀ j, j ≠ G → (W.setCell ⟨G, k, none⟩ v).heap[j]? = W.heap[j]? := fun j hj => Below.heap_setCell W ⟨G, k, none⟩ v j hj
  have hkeep : ∀ {zs : List Int} {v' : Value}, Held W T zs v' → Held (W.setCell ⟨G, k, none⟩ v) T zs v' := fun hh => hh.keep fun g cells _ hg => (far g (fun e => by
    obtain ⟨cs, e1, _⟩ := h6
    rw [e, e1] at hg
    injection hg with hg
    injection hg with _ hg
    revert hg
    decide)).trans hg
  refine ⟨grown_far h1 (.inr (by show w.heap.size ≤ G; omega)) _, h2.off (show G ≠ T by omega) _, (far _ (by omega)).trans h3, (far _ (by omega)).trans h4, (far _ (by omega)).trans h5, _, h6.set (show k < s + 1 by omega) v, fun j hj => ?_⟩
  show Held _ T (if j = k then zs else xs j) (if j = k then v else u j)
  split
  · exact hkeep hv
  · exact hkeep (h7 j hj)
/-- A store into the table of tables. -/
theorem BInv.setT {w : World} {T m G s : Nat} {f : Nat → Value} {c0 c2 c3 : Array Value} {xs : Nat → List Int} {W : World} (h : BInv w T m G s f c0 c2 c3 xs W) (hT : T < w.heap.size) (hG : T < G) {k : Nat} (hk : k < 3 * m) (v : Value) : BInv w T m G s (fun j => if j = k then v else f j) c0 c2 c3 xs (W.setCell ⟨T, k, none⟩ v) := by
  obtain ⟨h1, h2, h3, h4, h5, u, h6, h7⟩ := h
  have far : ∀ j, j ≠ T → (W.setCell ⟨T, k, none⟩ v).heap[j]? = W.heap[j]? := fun j hj => Below.heap_setCell W ⟨T, k, none⟩ v j hj
  exact ⟨grown_far h1 (.inl rfl) _, h2.set hk v, (far _ (by omega)).trans h3, (far _ (by omega)).trans h4, (far _ (by omega)).trans h5, u, h6.off (show T ≠ G by omega) _, fun j hj => (h7 j hj).keep (fun g cells hg hb => (far g (by omega)).trans hb)⟩
theorem enF_most {come : List Int} {mn cents B : Int} (h : Most B come) (hB : 0 ≤ B) (hc0 : 0 ≤ cents) (hc1 : cents ≤ 1000000) (hl : come.length ≤ 2001) {j : Nat} (hj : j ≤ come.length) : enF come mn cents j ≤ B + 2001000000 := by
  rcases enF_from (come := come) (mn := mn) (cents := cents) j hj with e | ⟨n, _, h2, h3⟩
  · omega
  · have h4 := h.at_ (by omega) n
    have h5 := tat_lt h2
    have h6 : (n : Int) * cents ≤ 2001 * 1000000 := Int.le_trans (Int.mul_le_mul_of_nonneg_right (show (n : Int) ≤ 2001 by omega) hc0) (Int.mul_le_mul_of_nonneg_left hc1 (by decide))
    omega
set_option maxHeartbeats 4000000 in
set_option maxRecDepth 100000 in
theorem build_up (T m i cT nI K : Nat) (lv up : Int) (nm ln : ByteArray) (A3 AL : Option Addr) (c3 cL nL : Nat) (lp mn cents : Int) (f : Nat → Value) (subs : List Nat) (bt : Nat → List Int) (n : Nat → Nat) (w : World)
    (hlv : lv ≠ 0) (hT : BlkIs w T 79 (3 * m) f) (hi : i < m) (hsubs : Held w T (subs.map ofN) (f (3 * i))) (hne : 0 < subs.length)
    (hbest : ∀ c ∈ subs, c < m ∧ Held w T (bt c) (f (3 * c + 1)) ∧ TabF K (n c) 1000000 (bt c) ∧ 1 ≤ n c) (hK : K ≤ 6) (hsum : sumOf n subs ≤ 2000) (_ : m ≤ 20000)
    (hc0 : 0 ≤ cents) (hc1 : cents ≤ 1000000) (hm0 : 0 ≤ mn) (hm1 : mn ≤ 2000) :
    Calls Tryd.prog 36 #[.slice (some ⟨T, 0, none⟩) m cT, .agg #[.int .i64 lv, .string nm, .int .i64 up, .slice A3 nI c3], .agg #[.string ln, .int .i64 lp, .slice AL nL cL, .int .i64 mn, .int .i64 cents], .pointer (some ⟨T, 3 * i, none⟩)] w fun e w' =>
      e = .returned (.tuple #[]) ∧ ∃ vb G cr u, BlkIs w' T 79 (3 * m) (fun j => if j = 3 * i + 1 then vb else if j = 3 * i + 2 then .slice (some ⟨G, 0, none⟩) (subs.length + 1) cr else f j) ∧ Held w' T (bestS (comeS (subs.map bt)) mn cents) vb ∧ T < G ∧
        BlkIs w' G 38 (subs.length + 1) u ∧ (∀ j, j ≤ subs.length → Held w' T (comeS ((subs.map bt).drop j)) (u j)) ∧ w.grownBy w' (some T) := by
  have d0 : (lv == (0 : Int)) = false := by simpa using hlv
  have hTl := hT.lt
  obtain ⟨s1, s2⟩ := hT.get (show 3 * i < 3 * m by omega)
  obtain ⟨gs, cs, hvs, hcs, hms, hTs, hbs⟩ := hsubs.bel (by rw [List.length_map]; exact hne)
  rw [List.length_map] at hvs hcs hms hbs
  obtain ⟨W4, hW4⟩ : ∃ W4, (((w.alloc (.cells #[.slice (some ⟨T, 0, none⟩) m cT] 76)).alloc (.cells #[.int .i64 lv, .string nm, .int .i64 up, .slice A3 nI c3] 43)).alloc (.cells #[.string ln, .int .i64 lp, .slice AL nL cL, .int .i64 mn, .int .i64 cents] 41)).alloc (.cells #[.pointer (some ⟨T, 3 * i, none⟩)] 81) = W4 := ⟨_, rfl⟩
  have HF0 : Hid (W4.heap.size = w.heap.size + 4 ∧ Below w.heap.size w W4 ∧ W4.heap[w.heap.size]? = some (.cells #[.slice (some ⟨T, 0, none⟩) m cT] 76 (0, 0)) ∧ W4.heap[w.heap.size + 1]? = some (.cells #[.int .i64 lv, .string nm, .int .i64 up, .slice A3 nI c3] 43 (0, 0)) ∧ W4.heap[w.heap.size + 1 + 1]? = some (.cells #[.string ln, .int .i64 lp, .slice AL nL cL, .int .i64 mn, .int .i64 cents] 41 (0, 0)) ∧ W4.heap[w.heap.size + 1 + 1 + 1]? = some (.cells #[.pointer (some ⟨T, 3 * i, none⟩)] 81 (0, 0))) := by
    rw [← hW4]
    exact four_boxes w _ _ _ _
  obtain ⟨z4, hB4, X0, X1, X2, X3⟩ := HF0.out
  have HB4 := hid_ hB4
  have x10 := boxAt X1 0 rfl
  have HX := hid_ (And.intro X0 (And.intro X2 X3))
  clear hB4 HF0 X0 X1 X2 X3
  refine (callsIn_wide (n := 9)).1 ?_
  refine callsIn_of_wp_marks Tryd.func36 rfl trivial ?_ rfl
  simp only [Tryd.ntmps36, List.size_toArray, List.length_cons, List.length_nil, Nat.reduceAdd, Nat.reduceSub, Array.replicate_succ, Array.replicate_zero, List.push_toArray, List.append_toArray, List.nil_append, List.cons_append]
  refine wpIn_wide.2 ?_
  go_upto_region 1 with (fail)
  clear hW4
  have HT4 := hid_ (hT.below HB4.out)
  obtain ⟨s1, s2⟩ := HT4.out.get (show 3 * i < 3 * m by omega)
  rw [hvs] at s1
  have x3 := boxAt HX.out.2.2 0 rfl
  have hmk := fun W : World => run_make_row' (P := Tryd.prog) 77 38 (.slice none 0 0) 24 Tryd.underlying77 infoRows rfl .i64 .i64 (subs.length + 1) (by omega) (by omega) W
  rw [show ((subs.length + 1 : Nat) : Int) = (subs.length : Int) + 1 from by omega] at hmk
  have HB5 := hid_ (below_drew ((Below.refl W4.heap.size W4).alloc (Nat.le_refl _) (.cells (madeCells #[.slice none 0 0] (subs.length + 1)) 38)))
  have HT5 := hid_ (HT4.out.below HB5.out)
  obtain ⟨q1, q2⟩ := HT5.out.get (show 3 * i + 2 < 3 * m by omega)
  go_upto_region 5 with (fail)
  go_region
  obtain ⟨W6, hW6⟩ : ∃ W6, ((W4.alloc (.cells (madeCells #[.slice none 0 0] (subs.length + 1)) 38)).setCell ⟨T, 3 * i + 2, none⟩ (.slice (some ⟨w.heap.size + 4, 0, none⟩) (subs.length + 1) (subs.length + 1))).drew = W6 := ⟨_, rfl⟩
  rw [hW6]
  have HF6 : Hid (W6.heap.size = w.heap.size + 5 ∧ BInv w T m (w.heap.size + 4) subs.length (fun j => if j = 3 * i + 2 then .slice (some ⟨w.heap.size + 4, 0, none⟩) (subs.length + 1) (subs.length + 1) else f j) #[.slice (some ⟨T, 0, none⟩) m cT] #[.string ln, .int .i64 lp, .slice AL nL cL, .int .i64 mn, .int .i64 cents] #[.pointer (some ⟨T, 3 * i, none⟩)] (fun _ => []) W6) := by
    rw [← hW6]
    have e4 : w.heap.size + 4 = W4.heap.size := z4.symm
    have far : ∀ k o, k ≠ T → W4.heap[k]? = some o → (((W4.alloc (.cells (madeCells #[.slice none 0 0] (subs.length + 1)) 38)).setCell ⟨T, 3 * i + 2, none⟩ (.slice (some ⟨w.heap.size + 4, 0, none⟩) (subs.length + 1) (subs.length + 1))).drew).heap[k]? = some o := fun k o hk ho =>
      (Below.heap_setCell _ ⟨T, 3 * i + 2, none⟩ _ k hk).trans ((Below.heap_alloc W4 _ k (Array.getElem?_eq_some_iff.1 ho).1).trans ho)
    refine ⟨by show (World.setCell _ _ _).heap.size = _; simp [World.setCell]; omega, ⟨?_, ?_, far _ _ (by omega) HX.out.1, far _ _ (by omega) HX.out.2.1, far _ _ (by omega) HX.out.2.2, fun _ => .slice none 0 0, ?_, fun j _ => .inl ⟨rfl, rfl⟩⟩⟩
    · exact grown_then (grown_far (grown_then ((grown_below HB4.out).but _) ((Below.refl W4.heap.size W4).alloc (Nat.le_refl _) _)) (.inl rfl) _) (below_drew (Below.refl _ _))
    · have h := (HT4.out.below ((Below.refl W4.heap.size W4).alloc (Nat.le_refl _) (.cells (madeCells #[.slice none 0 0] (subs.length + 1)) 38))).set (show 3 * i + 2 < 3 * m by omega) (.slice (some ⟨w.heap.size + 4, 0, none⟩) (subs.length + 1) (subs.length + 1))
      exact h.below (below_drew (Below.refl _ _))
    · refine ⟨madeCells #[.slice none 0 0] (subs.length + 1), (Below.heap_setCell _ ⟨T, 3 * i + 2, none⟩ _ _ (show w.heap.size + 4 ≠ T by omega)).trans (by rw [e4]; exact World.alloc_heap_new W4 _), by simp [size_madeCells], fun j hj => ?_⟩
      simp [madeCells, hj, Nat.mod_one]
  have z6 := HF6.out.1
  clear hW6 hmk HB5 HT5 HT4 HX HB4 s1 s2 q1 q2 x10 x3
  have HB7 := hid_ (below_drew ((Below.refl W6.heap.size W6).alloc (Nat.le_refl _) (.cells #[.int .i64 0] 3)))
  obtain ⟨s1, s2⟩ := HF6.out.2.tab.get (show 3 * i < 3 * m by omega)
  obtain ⟨q1, q2⟩ := HF6.out.2.tab.get (show 3 * i + 2 < 3 * m by omega)
  rw [if_neg (by omega), hvs] at s1
  rw [if_pos rfl] at q1
  have x3 := boxAt HF6.out.2.box3 0 rfl
  obtain ⟨u0, hu0, _⟩ := HF6.out.2.rest
  obtain ⟨r0, r0'⟩ := hu0.get (show subs.length < subs.length + 1 by omega)
  obtain ⟨r1, r2⟩ := (hu0.below HB7.out).get (show subs.length < subs.length + 1 by omega)
  have hix : (subs.length : Int) < (subs.length : Int) + 1 := by omega
  obtain ⟨W7, hW7⟩ : ∃ W7, ((W6.setCell ⟨w.heap.size + 4, subs.length, none⟩ (.slice (some ⟨w.heap.size + 5, 0, none⟩) 1 1)).alloc (.cells #[.int .i64 0] 3)).drew = W7 := ⟨_, rfl⟩
  have HF7 : Hid (W7.heap.size = w.heap.size + 6 ∧ BInv w T m (w.heap.size + 4) subs.length (fun j => if j = 3 * i + 2 then .slice (some ⟨w.heap.size + 4, 0, none⟩) (subs.length + 1) (subs.length + 1) else f j) #[.slice (some ⟨T, 0, none⟩) m cT] #[.string ln, .int .i64 lp, .slice AL nL cL, .int .i64 mn, .int .i64 cents] #[.pointer (some ⟨T, 3 * i, none⟩)] (fun j => if j = subs.length then [0] else []) W7) := by
    rw [← hW7, ← World.setCell_alloc_past _ _ _ _ (by omega)]
    have h1 := HF6.out.2.below ((Below.refl W6.heap.size W6).alloc (Nat.le_refl _) (.cells #[.int .i64 0] 3))
    have hh : Held (W6.alloc (.cells #[.int .i64 0] 3)) T [0] (.slice (some ⟨w.heap.size + 5, 0, none⟩) 1 1) := by
      rw [← z6]
      exact held_one W6 0 (by omega)
    have h2 := h1.put (by omega) (by omega) (Nat.le_refl _) hh
    exact ⟨by show (World.setCell _ _ _).heap.size = _; simp [World.setCell]; omega, h2.below (below_drew (Below.refl _ _))⟩
  have hS1 := hid_ (And.intro s1 (And.intro q1 x3))
  have hS2 := hid_ (And.intro (pw_cell_below HB7.out s1) (And.intro (pw_cell_below HB7.out q1) (pw_cell_below HB7.out x3)))
  have hS3 : Hid (W7.cell? ⟨T, 3 * i, none⟩ = some (.slice (some ⟨gs, 0, none⟩) subs.length cs) ∧ W7.cell? ⟨T, 3 * i + 2, none⟩ = some (.slice (some ⟨w.heap.size + 4, 0, none⟩) (subs.length + 1) (subs.length + 1)) ∧ W7.cell? ⟨w.heap.size + 1 + 1 + 1, 0, none⟩ = some (.pointer (some ⟨T, 3 * i, none⟩))) := by
    refine ⟨?_, ?_, boxAt HF7.out.2.box3 0 rfl⟩
    · have h := (HF7.out.2.tab.get (show 3 * i < 3 * m by omega)).1
      rwa [if_neg (by omega), hvs] at h
    · have h := (HF7.out.2.tab.get (show 3 * i + 2 < 3 * m by omega)).1
      rwa [if_pos rfl] at h
  rw [← hW7] at hS3
  have HW7 := hid_ hW7
  clear hW7
  go_upto_region 6 with (fail)
  go_region_held3 (fun W => W.cell? ⟨T, 3 * i, none⟩ = some (.slice (some ⟨gs, 0, none⟩) subs.length cs) ∧ W.cell? ⟨T, 3 * i + 2, none⟩ = some (.slice (some ⟨w.heap.size + 4, 0, none⟩) (subs.length + 1) (subs.length + 1)) ∧ W.cell? ⟨w.heap.size + 1 + 1 + 1, 0, none⟩ = some (.pointer (some ⟨T, 3 * i, none⟩))) (first | exact hS1.out | exact hS2.out | exact hS3.out) (fail)
  rw [HW7.out] at hS3 ⊢
  clear HW7 hS1 hS2 r0 r0' r1 r2 HB7 s1 s2 q1 q2 HF6 x3 hu0 z6
  have z7 := HF7.out.1
  have q1 := hS3.out.1
  have q2 := hS3.out.2.2
  go_wp2_with (go_at_call 54; refine (backward_any _ _ _ _).mono ?_; rintro e w8 ⟨rfl, h8⟩)
  have HB8 : Hid (Below W7.heap.size W7 w8 ∧ w8.heap.size = w.heap.size + 7 ∧ w8.heap[w.heap.size + 6]? = some (.cells #[.slice (some ⟨gs, 0, none⟩) subs.length cs] 38 (0, 0))) := by
    rw [← h8, ← z7]
    exact ⟨(Below.refl _ _).alloc (Nat.le_refl _) _, by simp [z7], World.alloc_heap_new _ _⟩
  have HI8 := hid_ (HF7.out.2.below HB8.out.1)
  have z8 := HB8.out.2.1
  have hgl : gs < w.heap.size := hbs.lt
  have HBS : Hid (BelIs w8 gs (subs.map ofN).length (fun i => (subs.map ofN).getD i 0)) := by
    rw [Hid, List.length_map]
    exact hbs.same (grown_same HI8.out.grown hgl (by omega))
  clear h8 HF7 hS3 q1 q2
  refine (wpIn_wide (n := 9)).1 ?_
  refine' wpIn_rangeFunc_ownF (n := 9) rfl (by decide) (gf := 77) (lb := #[.pointer (some ⟨w.heap.size + 6, 0, none⟩)]) rfl trivial (enters_of Tryd.func77 (by kernel_rfl) rfl)
    (backward_stops Fence.wide 8 trivial rfl (by decide) (w.heap.size + 6) gs cs (subs.map ofN) (by rw [List.length_map]; exact hms) (fun A B => B.heap[w.heap.size + 6]? = A.heap[w.heap.size + 6]? ∧ B.heap[gs]? = A.heap[gs]?) (fun _ _ h => h) w8 (by rw [List.length_map]; exact HB8.out.2.2) HBS.out)
    (fun h k => ⟨k.1.trans h.1, k.2.trans h.2⟩) (fun W l o o' hl _ _ _ => ⟨World.putObj_heap_other (by omega), World.putObj_heap_other (by omega)⟩) (Below.refl _ _) (fun _ => rfl)
    (fun pre W => ∃ xs, Hid (BInv w T m (w.heap.size + 4) subs.length (fun j => if j = 3 * i + 2 then .slice (some ⟨w.heap.size + 4, 0, none⟩) (subs.length + 1) (subs.length + 1) else f j) #[.slice (some ⟨T, 0, none⟩) m cT] #[.string ln, .int .i64 lp, .slice AL nL cL, .int .i64 mn, .int .i64 cents] #[.pointer (some ⟨T, 3 * i, none⟩)] xs W) ∧ Hid (RestOk n bt subs pre xs) ∧ Hid (w8.heap.size ≤ W.heap.size)) (fun _ _ _ => False)
    ?own ?ownx ?start _ ?assign ?body ?done ?stop
  case own => exact fun pre W W' row ⟨xs, h1, h2, h3⟩ hg hr => ⟨xs, h1.out.own (by omega) hg hr, h2, Nat.le_trans h3.out hg.size⟩
  case ownx => exact fun _ _ _ _ _ h _ _ => h
  case start =>
    refine ⟨_, HI8.out, ⟨fun j hj => ?_, fun _ j h1 h2 => ?_⟩, Nat.le_refl _⟩
    · show Okt (if _ then _ else _) ∧ Most _ (if _ then _ else _) ∧ (if _ then _ else _ : List Int).length ≤ _
      split
      · refine ⟨fun x hx => ?_, fun x hx => ?_, by simp⟩
        · simp at hx; omega
        · simp at hx; omega
      · exact ⟨fun x hx => (by cases hx), fun x hx => (by cases hx), by simp⟩
    · obtain rfl : j = subs.length := by simp at h1; omega
      show (if _ = _ then _ else _) = _
      rw [if_pos rfl, List.drop_length]
      rfl
  case stop => exact fun _ _ _ _ _ _ h => h.elim
  case assign =>
    intro l x W K hK
    gi_wp2
    exact hK
  case body =>
    rintro l pre ⟨⟨k, z⟩, hk, hz⟩ W ⟨xs, hI, hR, hsz⟩ hlen
    have hks : k < subs.length := by simpa using hk
    obtain rfl : z = ((subs[k] : Nat) : Int) := by
      have hz : z = (subs.map ofN).getD k 0 := hz
      rw [hz, getI hk, List.getElem_map]
      rfl
    obtain ⟨c1, c2, c3', c4⟩ := hbest subs[k] (List.getElem_mem hks)
    obtain ⟨u, hu, hux⟩ := hI.out.rest
    obtain ⟨A5, cc5, hu5, hcc5, hC5, hm5⟩ := (hux (k + 1) (by omega)).reads
    obtain ⟨g6, cc6, hu6, hcc6, hm6, hT6, hb6⟩ := (c2.grown hI.out.grown).bel (by rw [c3'.len]; omega)
    have HSX : Hid (∀ W' : World, Below W.heap.size W W' → W'.cell? ⟨w.heap.size + 1 + 1 + 1, 0, none⟩ = some (.pointer (some ⟨T, 3 * i, none⟩)) ∧ W'.cell? ⟨T, 3 * i + 2, none⟩ = some (.slice (some ⟨w.heap.size + 4, 0, none⟩) (subs.length + 1) (subs.length + 1)) ∧ W'.cell? ⟨w.heap.size, 0, none⟩ = some (.slice (some ⟨T, 0, none⟩) m cT) ∧ W'.cell? ⟨T, subs[k] * 3 + 1, none⟩ = some (.slice (some ⟨g6, 0, none⟩) (bt subs[k]).length cc6) ∧ W'.cell? ⟨w.heap.size + 4, k + 1, none⟩ = some (.slice A5 (xs (k + 1)).length cc5)) := by
      intro W' hB
      have h := hI.out.below hB
      refine ⟨boxAt h.box3 0 rfl, ?_, boxAt h.box0 0 rfl, ?_, ?_⟩
      · have h1 := (h.tab.get (show 3 * i + 2 < 3 * m by omega)).1
        rwa [if_pos rfl] at h1
      · have h1 := (h.tab.get (show 3 * subs[k] + 1 < 3 * m by omega)).1
        rw [if_neg (by omega), hu6] at h1
        rwa [Nat.mul_comm subs[k] 3]
      · have h1 := ((hu.below hB).get (show k + 1 < subs.length + 1 by omega)).1
        rwa [hu5] at h1
    generalize hce : subs[k] = c at *
    have HC5 := hid_ hC5
    have HB6 := hid_ hb6
    clear hC5 hb6 hux hu hu5 hu6
    have hkx : (k : Int) < (subs.length : Int) + 1 := by omega
    have hkx2 : (k : Int) + 1 < (subs.length : Int) + 1 := by omega
    have hcm : (c : Int) < (m : Int) := by omega
    have hk0 : (0 : Int) ≤ (k : Int) + 1 := by omega
    have hkn : ((k : Int) + 1).toNat = k + 1 := by omega
    have hwk : IntKind.i64.wrap ((k : Int) + 1) = (k : Int) + 1 := IntWalk.i64_in _ (by omega)
    gi_wp2
    refine region_round (S := fun W' => W'.cell? ⟨w.heap.size + 1 + 1 + 1, 0, none⟩ = some (.pointer (some ⟨T, 3 * i, none⟩)) ∧ W'.cell? ⟨T, 3 * i + 2, none⟩ = some (.slice (some ⟨w.heap.size + 4, 0, none⟩) (subs.length + 1) (subs.length + 1)) ∧ W'.cell? ⟨w.heap.size, 0, none⟩ = some (.slice (some ⟨T, 0, none⟩) m cT) ∧ W'.cell? ⟨T, c * 3 + 1, none⟩ = some (.slice (some ⟨g6, 0, none⟩) (bt c).length cc6) ∧ W'.cell? ⟨w.heap.size + 4, k + 1, none⟩ = some (.slice A5 (xs (k + 1)).length cc5)) (by kernel_rfl) (by kernel_rfl) (by rintro ⟨a, w, h⟩; exact h) (HSX.out _ (below_drew (Below.refl _ _))) (fun hHeld => ?_)
    refine wpAnyH_take (i := 0) (oi := Oper.mk _ _ _ _ _ _) (v := ?_) rfl (by kernel_rfl) (by kernel_rfl) (by kernel_rfl) (fun _ _ _ h => h) (Or.inl ⟨by rfl, ?_⟩) hHeld ?_
    rotate_left
    · intro w' hSw
      obtain ⟨g1, g2, g3, g4, g5⟩ := hSw
      go_simp
      with_reducible rfl
    simp only [Act.put, List.setIfInBounds_toArray, List.set_cons_zero, List.set_cons_succ]
    refine wpAnyH_take (i := 1) (oi := Oper.mk _ _ _ _ _ _) (v := ?_) rfl (by kernel_rfl) (by kernel_rfl) (by kernel_rfl) (fun _ _ _ h => h) (Or.inl ⟨by rfl, ?_⟩) hHeld ?_
    rotate_left
    · intro w' hSw
      obtain ⟨g1, g2, g3, g4, g5⟩ := hSw
      go_simp
      with_reducible rfl
    simp only [Act.put, List.setIfInBounds_toArray, List.set_cons_zero, List.set_cons_succ]
    refine wpAnyH_take (i := 2) (oi := Oper.mk _ _ _ _ _ _) (v := ?_) rfl (by kernel_rfl) (by kernel_rfl) (by kernel_rfl) (fun _ _ _ h => h) (Or.inl ⟨by rfl, ?_⟩) hHeld ?_
    rotate_left
    · intro w' hSw
      obtain ⟨g1, g2, g3, g4, g5⟩ := hSw
      go_simp
      with_reducible rfl
    simp only [Act.put, List.setIfInBounds_toArray, List.set_cons_zero, List.set_cons_succ]
    refine wpAnyH_take (i := 3) (oi := Oper.mk _ _ _ _ _ _) (v := ?_) rfl (by kernel_rfl) (by kernel_rfl) (by kernel_rfl) (fun _ _ _ h => h) (Or.inl ⟨by rfl, ?_⟩) hHeld ?_
    rotate_left
    · intro w' hSw
      obtain ⟨g1, g2, g3, g4, g5⟩ := hSw
      go_simp
      with_reducible rfl
    simp only [Act.put, List.setIfInBounds_toArray, List.set_cons_zero, List.set_cons_succ]
    refine wpAnyH_take (i := 4) (oi := Oper.mk _ _ _ _ _ _) (v := ?_) rfl (by kernel_rfl) (by kernel_rfl) (by kernel_rfl) (fun _ _ _ h => h) (Or.inl ⟨by rfl, ?_⟩) hHeld ?_
    rotate_left
    · intro w' hSw
      obtain ⟨g1, g2, g3, g4, g5⟩ := hSw
      go_simp
      with_reducible rfl
    simp only [Act.put, List.setIfInBounds_toArray, List.set_cons_zero, List.set_cons_succ]
    refine wpAnyH_take (i := 5) (oi := Oper.mk _ _ _ _ _ _) (v := ?_) rfl (by kernel_rfl) (by kernel_rfl) (by kernel_rfl) (fun _ _ _ h => h) (Or.inl ⟨by rfl, ?_⟩) hHeld ?_
    rotate_left
    · intro w' hSw
      obtain ⟨g1, g2, g3, g4, g5⟩ := hSw
      go_simp
      with_reducible rfl
    simp only [Act.put, List.setIfInBounds_toArray, List.set_cons_zero, List.set_cons_succ]
    refine wpAnyH_take (i := 6) (oi := Oper.mk _ _ _ _ _ _) (v := ?_) rfl (by kernel_rfl) (by kernel_rfl) (by kernel_rfl) (fun _ _ _ h => h) (Or.inl ⟨by rfl, ?_⟩) hHeld ?_
    rotate_left
    · intro w' hSw
      obtain ⟨g1, g2, g3, g4, g5⟩ := hSw
      go_simp
      with_reducible rfl
    simp only [Act.put, List.setIfInBounds_toArray, List.set_cons_zero, List.set_cons_succ]
    refine wpAnyH_take (i := 7) (oi := Oper.mk _ _ _ _ _ _) (v := ?_) rfl (by kernel_rfl) (by kernel_rfl) (by kernel_rfl) (fun _ _ _ h => h) (Or.inl ⟨by rfl, ?_⟩) hHeld ?_
    rotate_left
    · intro w' hSw
      obtain ⟨g1, g2, g3, g4, g5⟩ := hSw
      go_simp
      with_reducible rfl
    simp only [Act.put, List.setIfInBounds_toArray, List.set_cons_zero, List.set_cons_succ]
    refine wpAnyH_take (i := 8) (oi := Oper.mk _ _ _ _ _ _) (v := ?_) rfl (by kernel_rfl) (by kernel_rfl) (by kernel_rfl) (fun _ _ _ h => h) (Or.inl ⟨by rfl, ?_⟩) hHeld ?_
    rotate_left
    · intro w' hSw
      obtain ⟨g1, g2, g3, g4, g5⟩ := hSw
      go_simp
      with_reducible rfl
    simp only [Act.put, List.setIfInBounds_toArray, List.set_cons_zero, List.set_cons_succ]
    refine wpAnyH_take (i := 9) (oi := Oper.mk _ _ _ _ _ _) (v := ?_) rfl (by kernel_rfl) (by kernel_rfl) (by kernel_rfl) (fun _ _ _ h => h) (Or.inl ⟨by rfl, ?_⟩) hHeld ?_
    rotate_left
    · intro w' hSw
      obtain ⟨g1, g2, g3, g4, g5⟩ := hSw
      go_simp
      with_reducible rfl
    simp only [Act.put, List.setIfInBounds_toArray, List.set_cons_zero, List.set_cons_succ]
    refine wpAnyH_take (i := 10) (oi := Oper.mk _ _ _ _ _ _) (v := ?_) rfl (by kernel_rfl) (by kernel_rfl) (by kernel_rfl) (fun _ _ _ h => h) (Or.inl ⟨by rfl, ?_⟩) hHeld ?_
    rotate_left
    · intro w' hSw
      obtain ⟨g1, g2, g3, g4, g5⟩ := hSw
      go_simp
      with_reducible rfl
    simp only [Act.put, List.setIfInBounds_toArray, List.set_cons_zero, List.set_cons_succ]
    refine wpAnyH_take (i := 11) (oi := Oper.mk _ _ _ _ _ _) (v := ?_) rfl (by kernel_rfl) (by kernel_rfl) (by kernel_rfl) (fun _ _ _ h => h) (Or.inl ⟨by rfl, ?_⟩) hHeld ?_
    rotate_left
    · intro w' hSw
      obtain ⟨g1, g2, g3, g4, g5⟩ := hSw
      go_simp
      with_reducible rfl
    simp only [Act.put, List.setIfInBounds_toArray, List.set_cons_zero, List.set_cons_succ]
    refine wpAnyH_take (i := 12) (oi := Oper.mk _ _ _ _ _ _) (v := ?_) rfl (by kernel_rfl) (by kernel_rfl) (by kernel_rfl) (fun _ _ _ h => h) (Or.inl ⟨by rfl, ?_⟩) hHeld ?_
    rotate_left
    · intro w' hSw
      obtain ⟨g1, g2, g3, g4, g5⟩ := hSw
      go_simp
      with_reducible rfl
    simp only [Act.put, List.setIfInBounds_toArray, List.set_cons_zero, List.set_cons_succ]
    refine wpAnyH_take (i := 13) (oi := Oper.mk _ _ _ _ _ _) (v := ?_) rfl (by kernel_rfl) (by kernel_rfl) (by kernel_rfl) (fun _ _ _ h => h) (Or.inl ⟨by rfl, ?_⟩) hHeld ?_
    rotate_left
    · intro w' hSw
      obtain ⟨g1, g2, g3, g4, g5⟩ := hSw
      go_simp
      with_reducible rfl
    simp only [Act.put, List.setIfInBounds_toArray, List.set_cons_zero, List.set_cons_succ]
    refine wpAnyH_take (i := 14) (oi := Oper.mk _ _ _ _ _ _) (v := ?_) rfl (by kernel_rfl) (by kernel_rfl) (by kernel_rfl) (fun _ _ _ h => h) (Or.inl ⟨by rfl, ?_⟩) hHeld ?_
    rotate_left
    · intro w' hSw
      obtain ⟨g1, g2, g3, g4, g5⟩ := hSw
      go_simp
      with_reducible rfl
    simp only [Act.put, List.setIfInBounds_toArray, List.set_cons_zero, List.set_cons_succ]
    refine wpAnyH_take (i := 15) (oi := Oper.mk _ _ _ _ _ _) (v := ?_) rfl (by kernel_rfl) (by kernel_rfl) (by kernel_rfl) (fun _ _ _ h => h) (Or.inl ⟨by rfl, ?_⟩) hHeld ?_
    rotate_left
    · intro w' hSw
      obtain ⟨g1, g2, g3, g4, g5⟩ := hSw
      go_simp
      with_reducible rfl
    simp only [Act.put, List.setIfInBounds_toArray, List.set_cons_zero, List.set_cons_succ]
    refine wpAnyH_take (i := 16) (oi := Oper.mk _ _ _ _ _ _) (v := ?_) rfl (by kernel_rfl) (by kernel_rfl) (by kernel_rfl) (fun _ _ _ h => h) (Or.inl ⟨by rfl, ?_⟩) hHeld ?_
    rotate_left
    · intro w' hSw
      obtain ⟨g1, g2, g3, g4, g5⟩ := hSw
      go_simp
      with_reducible rfl
    simp only [Act.put, List.setIfInBounds_toArray, List.set_cons_zero, List.set_cons_succ]
    refine wpAnyH_take (i := 17) (oi := Oper.mk _ _ _ _ _ _) (v := ?_) rfl (by kernel_rfl) (by kernel_rfl) (by kernel_rfl) (fun _ _ _ h => h) (Or.inl ⟨by rfl, ?_⟩) hHeld ?_
    rotate_left
    · intro w' hSw
      obtain ⟨g1, g2, g3, g4, g5⟩ := hSw
      go_simp
      with_reducible rfl
    simp only [Act.put, List.setIfInBounds_toArray, List.set_cons_zero, List.set_cons_succ]
    have hcn : n c ≤ 2000 := by have := sumOf_mem (n := n) (show c ∈ subs from hce ▸ List.getElem_mem hks); omega
    have hsl : subs.length ≤ 2000 := Nat.le_trans (sumOf_len (fun c hc => (hbest c hc).2.2.2)) hsum
    have hxl : (xs (k + 1)).length ≤ 4001 := by
      have h1 := (hR.out.1 (k + 1) (by omega)).2.2
      rw [sumOf_one_more, List.length_drop] at h1
      have h2 := sumOf_drop n subs (k + 1)
      omega
    have hM0 : (0 : Int) ≤ ((subs.length : Nat) : Int) * 12000000000 := Int.mul_nonneg (by omega) (by omega)
    have HMG := hid_ (merge_any (bt c) (xs (k + 1)) (some ⟨g6, 0, none⟩) A5 cc6 cc5 W.drew (((subs.length : Nat) : Int) * 12000000000) (BelIs.reads (HB6.out.below (below_drew (Below.refl _ _))) hm6 (fun i hi => getI hi)) (Kd.C_below HC5.out (below_drew (Below.refl _ _))) c3'.ok (hR.out.1 (k + 1) (by omega)).1 (most_le (tabF_most c3' hK (by omega)) (by omega)) (most_le (hR.out.1 (k + 1) (by omega)).2.1 (by omega)) hM0 (by omega) (by rw [c3'.len]; omega) (by rw [c3'.len]; omega) (by omega))
    refine wpAnyH_ready (rs := [18]) (by kernel_rfl) (by simp) ?_
    refine AllReadyH.cons (o := Oper.mk _ _ _ _ _ _) rfl (fun KK hKK => ?_) AllReadyH.nil
    go_simp
    go_at_call 55
    refine HMG.out.mono ?_
    rintro e W9 ⟨⟨B9, cc9, rfl, hcc9, hB9, hbel9⟩, hb9⟩
    have HB9 := hid_ (below_then (below_drew (Below.refl W.heap.size W)) (Below.size (below_drew (Below.refl W.heap.size W))) hb9)
    have hB9' : W.heap.size ≤ B9 := hB9
    have hI9 := hI.out.below HB9.out
    have hmo := (RestOk.step hR.out (fun c hc => (hbest c hc).2.2.1) hK hsum ⟨((k, ((c : Nat) : Int)) : Nat × Int), hk, hz⟩ hks rfl (by simpa using hlen))
    rw [hce] at hmo
    have hml : (mergeS (bt c) (xs (k + 1))).length ≤ 1000000 := by rw [mergeS_len, c3'.len]; omega
    have hHd : Held W9 T (mergeS (bt c) (xs (k + 1))) (.slice (some ⟨B9, 0, none⟩) (mergeS (bt c) (xs (k + 1))).length cc9) := held_of_bel hbel9 (fun i hi => tat_get hi) (by have := hI.out.grown.size; omega) hcc9 hml
    have HIP := hid_ (hI9.put (by omega) (by omega) (show k ≤ subs.length by omega) hHd)
    obtain ⟨u9, hu9, _⟩ := hI9.rest
    obtain ⟨v1, v2⟩ := hu9.get (show k < subs.length + 1 by omega)
    have HMO := hid_ hmo
    have HS9 := hid_ (HSX.out _ HB9.out)
    clear hbel9 hb9 hI9 hmo hHd hu9
    refine hKK.out _ _ HS9.out (fun hHeld => ?_)
    clear hKK KK
    try simp only [Act.put, List.setIfInBounds_toArray, List.set_cons_zero, List.set_cons_succ]
    refine wpAnyH_ready (rs := [19]) (by kernel_rfl) (by simp) ?_
    refine AllReadyH.cons (o := Oper.mk _ _ _ _ _ _) rfl (fun KK hKK => ?_) AllReadyH.nil
    go_simp
    refine hKK.out _ _ HS9.out (fun hHeld => ?_)
    clear hKK KK
    try simp only [Act.put, List.setIfInBounds_toArray, List.set_cons_zero, List.set_cons_succ]
    refine wpAnyH_ready (rs := [20]) (by kernel_rfl) (by simp) ?_
    refine AllReadyH.cons (o := Oper.mk _ _ _ _ _ _) rfl (fun KK hKK => ?_) AllReadyH.nil
    go_simp
    refine hKK.out _ _ ⟨(World.cell?_setCell_other _ _ _ _ (fun e => by injection e with e1 e2; omega)).trans HS9.out.1, (World.cell?_setCell_other _ _ _ _ (fun e => by injection e with e1 e2; omega)).trans HS9.out.2.1, (World.cell?_setCell_other _ _ _ _ (fun e => by injection e with e1 e2; omega)).trans HS9.out.2.2.1, (World.cell?_setCell_other _ _ _ _ (fun e => by injection e with e1 e2; omega)).trans HS9.out.2.2.2.1, (World.cell?_setCell_other _ _ _ _ (fun e => by injection e with e1 e2; omega)).trans HS9.out.2.2.2.2⟩ (fun hHeld => ?_)
    refine wpAnyH_done (by kernel_rfl) ?_ _
    refine ⟨KeepsOthers.trans ⟨HB9.out.size, fun j o hj _ => (HB9.out.block j (Array.getElem?_eq_some_iff.1 hj).1).trans hj⟩ (KeepsOthers.setCell _ _ _), ⟨?_, ?_⟩, _, HIP.out, HMO.out, Nat.le_trans hsz.out (Nat.le_trans HB9.out.size (by simp [World.setCell]))⟩
    · have := hsz.out
      exact (Below.heap_setCell _ ⟨w.heap.size + 4, k, none⟩ _ (w.heap.size + 6) (show w.heap.size + 6 ≠ w.heap.size + 4 by omega)).trans (HB9.out.block _ (by omega))
    · have := hI.out.grown.size
      exact (Below.heap_setCell _ ⟨w.heap.size + 4, k, none⟩ _ gs (show gs ≠ w.heap.size + 4 by omega)).trans (HB9.out.block gs (by omega))
  case done =>
    rintro D ys W hD hys ⟨xs, hI, hR, hsz⟩ hK9
    have HD9 := hid_ hK9
    have hall : ∀ j, j ≤ subs.length → xs j = comeS ((subs.drop j).map bt) := fun j hj => hR.out.2 (by rw [hys, List.length_map]; exact List.prefix_refl _) j (by
      have := congrArg List.length hys
      rw [List.length_map, uptoB_length, List.length_map] at this
      omega) hj
    have hx0 : xs 0 = comeS (subs.map bt) := by rw [hall 0 (by omega), List.drop_zero]
    have hF : TabF K (sumOf n subs) 1000000 (comeS (subs.map bt)) := tabF_come (by decide) (fun c hc => (hbest c hc).2.2.1)
    obtain ⟨u, hu, hux⟩ := hI.out.rest
    obtain ⟨gc, cc, hu0, hcc, hcm, hTc, hbc⟩ := (hux 0 (by omega)).bel (by rw [hx0, hF.len]; omega)
    rw [hx0] at hu0 hcc hcm hbc
    have HU := hid_ (And.intro hu hux)
    have HALL := hid_ hall
    obtain ⟨r1, r2⟩ := hu.get (show 0 < subs.length + 1 by omega)
    rw [hu0] at r1
    generalize hcome : comeS (subs.map bt) = come at *
    have HCE := hid_ hcome
    clear hcome
    have hpos : 0 < come.length := by rw [hF.len]; omega
    have hle : come.length ≤ 2001 := by rw [hF.len]; omega
    have HF := hid_ hF
    have HBC := hid_ hbc
    obtain ⟨q1, q2⟩ := hI.out.tab.get (show 3 * i + 2 < 3 * m by omega)
    rw [if_pos rfl] at q1
    have x3 := boxAt hI.out.box3 0 rfl
    clear hys hall hR hu hux hF hbc hK9 hu0 hx0
    have HCL := hid_ (clone_any come (some ⟨gc, 0, none⟩) cc W.drew (HBC.out.below (below_drew (Below.refl _ _)) |>.reads hcm (fun i hi => getI hi)) hpos hcm)
    have hTW : T < W.heap.size := hI.out.tab.lt
    have hNW := hI.out.grown.size
    have hS0 := hid_ (pw_cell_below (below_drew (Below.refl W.heap.size W)) x3)
    go_upto_region 12 with (fail)
    go_region_held3 (fun W' => W'.cell? ⟨w.heap.size + 1 + 1 + 1, 0, none⟩ = some (.pointer (some ⟨T, 3 * i, none⟩))) (first | exact hS0.out | exact HS9.out | (refine (World.cell?_setCell_other _ _ _ _ (fun e => ?_)).trans HS9.out; injection e with e1 e2; omega)) ((go_at_call 56; refine HCL.out.mono ?_; rintro e w9 ⟨⟨B9, c9, rfl, hc9, hB9, hbel9⟩, hb9⟩; have HB9 := hid_ (below_then (below_drew (Below.refl W.heap.size W)) (Below.size (below_drew (Below.refl W.heap.size W))) hb9); have HS9 := hid_ (boxAt (hI.out.below HB9.out).box3 0 rfl); have HBEL9 := hid_ hbel9; obtain ⟨y1, y2⟩ := (hI.out.below HB9.out).tab.get (show 3 * i + 1 < 3 * m by omega); clear hbel9 hb9))
    obtain ⟨WA, hWA⟩ : ∃ WA, w9.setCell ⟨T, 3 * i + 1, none⟩ (.slice (some ⟨B9, 0, none⟩) come.length c9) = WA := ⟨_, rfl⟩
    rw [hWA]
    have hB9' : W.heap.size ≤ B9 := hB9
    have hgcl : gc < W.heap.size := HBC.out.lt
    have hGl : w.heap.size + 4 < W.heap.size := HU.out.1.lt
    have HA := hid_ (((hI.out.below HB9.out).setT hTl (by omega) (show 3 * i + 1 < 3 * m by omega) (.slice (some ⟨B9, 0, none⟩) come.length c9)))
    have HAB : Hid (BelIs WA B9 come.length (tat come) ∧ BelIs WA gc come.length (tat come) ∧ WA.heap[D]? = some (.deferred (some [])) ∧ WA.heap.size = w9.heap.size) := by
      rw [← hWA]
      have hDl := (Array.getElem?_eq_some_iff.1 HD9.out).1
      refine ⟨((HBEL9.out.congr (fun q hq => (getI hq).trans (tat_get hq).symm)).off (show T ≠ B9 by omega) _), (((HBC.out.below HB9.out).congr (fun q hq => (getI hq).trans (tat_get hq).symm)).off (show T ≠ gc by omega) _), (Below.heap_setCell _ ⟨T, 3 * i + 1, none⟩ _ D (show D ≠ T by omega)).trans ((HB9.out.block D hDl).trans HD9.out), by simp [World.setCell]⟩
    rw [hWA] at HA
    have hB9l : B9 < WA.heap.size := HAB.out.1.lt
    have hzA := HB9.out.size
    have hzA2 := HAB.out.2.2.2
    have HCHN : Hid (∀ (g : Nat) (cells : Array Value) (ty : TypeId), g ≠ T → W.heap[g]? = some (Obj.cells cells ty (0, 0)) → WA.heap[g]? = some (Obj.cells cells ty (0, 0)) ∧ g ≠ B9 ∧ g ≠ D ∧ g < WA.heap.size) := fun g cells ty hgT hg => by
      have hgl := (Array.getElem?_eq_some_iff.1 hg).1
      refine ⟨?_, by omega, fun e => ?_, ?_⟩
      · rw [← hWA]
        exact (Below.heap_setCell _ ⟨T, 3 * i + 1, none⟩ _ g hgT).trans ((HB9.out.block g hgl).trans hg)
      · rw [e, HD9.out] at hg
        cases hg
      · have := HB9.out.size
        have := HAB.out.2.2.2
        omega
    have HGW := hid_ (hI.out.rest)
    clear hWA HS9 HBEL9 y1 y2 hS0 q1 q2 r1 r2 x3 HBC HCL HD9 hI
    have HEB := hid_ (fun j (hj : j ≤ come.length) => And.intro (enF_ok (mn := mn) HF.out.ok hc0 hj) (enF_most (mn := mn) (most_le (tabF_most HF.out hK hsum) (Int.le_refl _)) (by decide) hc0 hc1 hle hj))
    have HTB : Hid (∀ q, -1 ≤ tat come q ∧ tat come q ≤ 12000000000) := fun q => ⟨HF.out.ok.ge q, (tabF_most HF.out hK hsum).at_ (by decide) q⟩
    have hnd : 1 ≤ needN mn ∧ needN mn ≤ 2000 := by unfold needN; omega
    have HND : Hid (max mn 1 = (needN mn : Int)) := by unfold needN; rw [Hid]; omega
    go_wp2
    go_loopw [12, 13] (fun e p wr => ∃ j : Nat, j ≤ come.length ∧ e = .int .i64 (enF come mn cents j) ∧ p = .int .i64 ((come.length : Int) - 1 - j) ∧ Hid (WA.grownBy wr (some B9)) ∧ Hid (BelIs wr B9 come.length (fun q => if come.length - j ≤ q then bestAt come mn cents q else tat come q))) (fun _ p _ => (intOf p + 1).toNat)
    case atStart => exact ⟨0, Nat.zero_le _, rfl, by simp, ⟨rfl, rfl, rfl, Nat.le_refl _, fun _ _ _ => rfl⟩, HAB.out.1.congr (fun q hq => (if_neg (by omega)).symm)⟩
    case round =>
      obtain ⟨j, hj, rfl, rfl, hG, hBl⟩ := hrel
      by_cases hlt : j < come.length
      · obtain ⟨q, HQ⟩ : ∃ q : Nat, Hid (come.length = j + 1 + q) := ⟨come.length - 1 - j, by rw [Hid]; omega⟩
        have hql : q < come.length := by have := HQ.out; omega
        have HQI : Hid ((come.length : Int) - 1 - j = (q : Int)) := by have := HQ.out; rw [Hid]; omega
        have HSTEP : Hid (enF come mn cents (j + 1) = if tat come (q + needN mn) ≠ -1 then max (enF come mn cents j) (tat come (q + needN mn) + ((q + needN mn : Nat) : Int) * cents) else enF come mn cents j) := by have := HQ.out; rw [Hid, enF, show come.length - (j + 1) = q by omega]
        have HBEST : Hid (bestAt come mn cents q = if enF come mn cents (j + 1) = -1 then tat come q else max (tat come q) (enF come mn cents (j + 1) - (q : Int) * cents)) := by have := HQ.out; rw [Hid, bestAt, show come.length - q = j + 1 by omega]
        obtain ⟨e1, e2⟩ := HEB.out j hj
        obtain ⟨e3, e4⟩ := HEB.out (j + 1) hlt
        obtain ⟨t3, t4⟩ := HTB.out q
        have far : ∀ k, k < WA.heap.size → k ≠ B9 → wr.heap[k]? = WA.heap[k]? := fun k h1 h2 => grown_same hG.out h1 h2
        have y1 := ((HA.out.tab.same (far T (by omega) (by omega))).get (show 3 * i + 1 < 3 * m by omega)).1
        rw [if_pos rfl] at y1
        have x3 := boxAt ((far _ (by omega) (by omega)).trans HA.out.box3) 0 rfl
        have x23 := boxAt ((far _ (by omega) (by omega)).trans HA.out.box2) 3 rfl
        have x24 := boxAt ((far _ (by omega) (by omega)).trans HA.out.box2) 4 rfl
        have HGC := hid_ (HAB.out.2.1.same (far gc (by omega) (by omega)))
        obtain ⟨b1, b2⟩ := hBl.out.get hql
        rw [if_neg (by have := HQ.out; omega)] at b1
        have hqc0 : 0 ≤ (q : Int) * cents := Int.mul_nonneg (by omega) hc0
        have hqc1 : (q : Int) * cents ≤ 2001000000 := Int.le_trans (Int.mul_le_mul_of_nonneg_right (show (q : Int) ≤ 2001 by omega) hc0) (by omega)
        have hpn : (q : Int) + max mn 1 = ((q + needN mn : Nat) : Int) := by have := HND.out; omega
        obtain ⟨t1, t2⟩ := HTB.out (q + needN mn)
        have hnc0 : 0 ≤ ((q + needN mn : Nat) : Int) * cents := Int.mul_nonneg (by omega) hc0
        have hnc1 : ((q + needN mn : Nat) : Int) * cents ≤ 4001000000 := Int.le_trans (Int.mul_le_mul_of_nonneg_right (show ((q + needN mn : Nat) : Int) ≤ 4001 by omega) hc0) (by omega)
        have HROW : Hid (∀ W', wr.grownBy W' (some B9) → ∀ v, v = bestAt come mn cents q → BelIs W' B9 come.length (fun p => if p = q then v else if come.length - j ≤ p then bestAt come mn cents p else tat come p) → BelIs W' B9 come.length (fun p => if come.length - (j + 1) ≤ p then bestAt come mn cents p else tat come p)) := fun W' _ v hv h => h.congr (fun p _ => by
          have hq := HQ.out
          by_cases e : p = q
          · subst e; rw [if_pos rfl, if_pos (by omega), hv]
          · rw [if_neg e]
            by_cases e' : come.length - j ≤ p
            · rw [if_pos e', if_pos (by omega)]
            · rw [if_neg e', if_neg (by omega)])
        rw [HQI.out]
        generalize q + needN mn = nn at *
        generalize hen1 : enF come mn cents (j + 1) = en1 at *
        have HEN := hid_ hen1
        clear hen1
        generalize enF come mn cents j = en0 at *
        have hwq : IntKind.i64.wrap ((q : Int) * cents) = (q : Int) * cents := IntWalk.i64_in _ (by omega)
        have hwq2 : IntKind.i64.wrap (en1 - (q : Int) * cents) = en1 - (q : Int) * cents := IntWalk.i64_in _ (by omega)
        have HSS := hid_ (fun W' (hB : Below wr.heap.size wr W') => And.intro (pw_cell_below hB x3) (And.intro (pw_cell_below hB y1) (pw_cell_below hB x24)))
        have hqI : (q : Int) < (come.length : Int) := by omega
        by_cases hn : nn < come.length
        · obtain ⟨c1, c2⟩ := HGC.out.get hn
          have hnI : (nn : Int) < (come.length : Int) := by omega
          by_cases ht : tat come nn = -1
          · rw [ht] at c1
            have HS1 : Hid (en1 = en0) := by rw [Hid, HSTEP.out, if_neg (by simp [ht])]
            obtain rfl : en1 = en0 := HS1.out
            clear HS1 HSTEP
            by_cases he : en1 = -1
            · have HRW := hid_ (HROW.out wr (World.grownBy.refl _ _) _ (show tat come q = _ from by rw [HBEST.out, if_pos he]) (hBl.out.congr (fun p hp => (by
                by_cases e : p = q
                · subst e; rw [if_pos rfl, if_neg (by have := HQ.out; omega)]
                · rw [if_neg e]))))
              have d2 : (en1 != (-1 : Int)) = false := by simp [he]
              clear he
              go_wp2
              go_roundw
              case rel => exact ⟨j + 1, hlt, by rw [HEN.out], by have := HQ.out; go_num, hG.out, HRW.out⟩
              case measure => simp [intOf]
            · have HBV : Hid (max (tat come q) (en1 - (q : Int) * cents) = bestAt come mn cents q) := by rw [Hid, HBEST.out, if_neg he]
              have d2 : (en1 != (-1 : Int)) = true := by simpa using he
              have hm2 := HBV.out
              generalize bestAt come mn cents q = bv at *
              clear he
              go_wp2
              obtain ⟨hz1, hz2, hz3⟩ := HSS.out _ (below_drew (Below.refl wr.heap.size wr))
              go_still_tail 20, (by kernel_rfl)
              change wpList _ _ _ _ _ wr.drew
              have HGR := hid_ (grown_far (grown_then hG.out (below_drew (Below.refl wr.heap.size wr))) (.inl rfl : (⟨B9, q, none⟩ : Addr).block = B9 ∨ _) (.int .i64 bv))
              have HRW := hid_ (HROW.out _ (grown_far ((grown_below (below_drew (Below.refl wr.heap.size wr))).but (some B9)) (.inl rfl : (⟨B9, q, none⟩ : Addr).block = B9 ∨ _) (.int .i64 bv)) bv rfl ((hBl.out.below (below_drew (Below.refl wr.heap.size wr))).set hql bv))
              go_wp2
              go_roundw
              case rel => exact ⟨j + 1, hlt, by rw [HEN.out], by have := HQ.out; go_num, HGR.out, HRW.out⟩
              case measure => simp [intOf]
          · have HS1 : Hid (en1 = max en0 (tat come nn + (nn : Int) * cents)) := by rw [Hid, HSTEP.out, if_pos ht]
            have hne1 : en1 ≠ -1 := by rw [HS1.out]; omega
            have HBV : Hid (max (tat come q) (en1 - (q : Int) * cents) = bestAt come mn cents q) := by rw [Hid, HBEST.out, if_neg hne1]
            have d1 : (tat come nn != (-1 : Int)) = true := by simpa using ht
            have d2 : (en1 != (-1 : Int)) = true := by simpa using hne1
            have hw1 : IntKind.i64.wrap ((nn : Int) * cents) = (nn : Int) * cents := IntWalk.i64_in _ (by omega)
            have hw2 : IntKind.i64.wrap (tat come nn + (nn : Int) * cents) = tat come nn + (nn : Int) * cents := IntWalk.i64_in _ (by omega)
            have hm1 := HS1.out.symm
            have hm2 := HBV.out
            generalize tat come nn = tn at *
            generalize bestAt come mn cents q = bv at *
            go_wp2
            go_quiet (fail)
            go_wp2
            rename_i nq
            obtain ⟨wn, hwn⟩ : ∃ wn, wr.drewN nq = wn := ⟨_, rfl⟩
            have HBN : Hid (Below wr.heap.size wr wn) := by rw [← hwn]; exact pw_below_drewN (Below.refl wr.heap.size wr) nq
            obtain ⟨hz1, hz2, hz3⟩ := HSS.out _ HBN.out
            have hbn := cellB HBN.out b1
            rw [hwn]
            go_still_tail 20, (by kernel_rfl)
            change wpList _ _ _ _ _ wn.drew
            subst hwn
            have HGR := hid_ (grown_far (grown_then hG.out (pw_below_drewN (Below.refl wr.heap.size wr) (nq + 1))) (.inl rfl : (⟨B9, q, none⟩ : Addr).block = B9 ∨ _) (.int .i64 bv))
            have HRW := hid_ (HROW.out _ (grown_far ((grown_below (pw_below_drewN (Below.refl wr.heap.size wr) (nq + 1))).but (some B9)) (.inl rfl : (⟨B9, q, none⟩ : Addr).block = B9 ∨ _) (.int .i64 bv)) bv rfl ((hBl.out.below (pw_below_drewN (Below.refl wr.heap.size wr) (nq + 1))).set hql bv))
            go_wp2
            go_roundw
            case rel => exact ⟨j + 1, hlt, by rw [HEN.out], by have := HQ.out; go_num, HGR.out, HRW.out⟩
            case measure => simp [intOf]
        · have hnI : (come.length : Int) ≤ (nn : Int) := by omega
          have ht : tat come nn = -1 := Decidable.byContradiction fun h => hn (tat_lt h)
          have HS1 : Hid (en1 = en0) := by rw [Hid, HSTEP.out, if_neg (by simp [ht])]
          obtain rfl : en1 = en0 := HS1.out
          clear HS1 HSTEP
          by_cases he : en1 = -1
          · have HRW := hid_ (HROW.out wr (World.grownBy.refl _ _) _ (show tat come q = _ from by rw [HBEST.out, if_pos he]) (hBl.out.congr (fun p hp => (by
              by_cases e : p = q
              · subst e; rw [if_pos rfl, if_neg (by have := HQ.out; omega)]
              · rw [if_neg e]))))
            have d2 : (en1 != (-1 : Int)) = false := by simp [he]
            clear he
            go_wp2
            go_roundw
            case rel => exact ⟨j + 1, hlt, by rw [HEN.out], by have := HQ.out; go_num, hG.out, HRW.out⟩
            case measure => simp [intOf]
          · have HBV : Hid (max (tat come q) (en1 - (q : Int) * cents) = bestAt come mn cents q) := by rw [Hid, HBEST.out, if_neg he]
            have d2 : (en1 != (-1 : Int)) = true := by simpa using he
            have hm2 := HBV.out
            generalize bestAt come mn cents q = bv at *
            clear he
            go_wp2
            obtain ⟨hz1, hz2, hz3⟩ := HSS.out _ (below_drew (Below.refl wr.heap.size wr))
            go_still_tail 20, (by kernel_rfl)
            change wpList _ _ _ _ _ wr.drew
            have HGR := hid_ (grown_far (grown_then hG.out (below_drew (Below.refl wr.heap.size wr))) (.inl rfl : (⟨B9, q, none⟩ : Addr).block = B9 ∨ _) (.int .i64 bv))
            have HRW := hid_ (HROW.out _ (grown_far ((grown_below (below_drew (Below.refl wr.heap.size wr))).but (some B9)) (.inl rfl : (⟨B9, q, none⟩ : Addr).block = B9 ∨ _) (.int .i64 bv)) bv rfl ((hBl.out.below (below_drew (Below.refl wr.heap.size wr))).set hql bv))
            go_wp2
            go_roundw
            case rel => exact ⟨j + 1, hlt, by rw [HEN.out], by have := HQ.out; go_num, HGR.out, HRW.out⟩
            case measure => simp [intOf]
      · have hje : j = come.length := by omega
        have HRW := hid_ (hBl.out.congr (g := fun q => tat (bestS come mn cents) q) (fun q hq => (by rw [if_pos (by omega), bestS, tat_range hq])))
        clear hje hBl HEB HTB
        go_wp2
        have HGD : Hid (wr.heap[D]? = some (.deferred (some []))) := (grown_same hG.out (by
          have := (Array.getElem?_eq_some_iff.1 HAB.out.2.2.1).1
          exact this) (fun e => by
          have h1 := HAB.out.2.2.1
          obtain ⟨cs9, h2, _⟩ := HAB.out.1
          rw [e, h2] at h1
          cases h1)).trans HAB.out.2.2.1
        refine ⟨by simp, .inl ⟨_, _, rfl, run_takeDeferred HGD.out, ?_⟩⟩
        have hDW : w8.heap.size ≤ D := hD
        have hTD : T ≠ D := by omega
        have hB9D : B9 ≠ D := fun e => by
          obtain ⟨cs9, h2, _⟩ := HRW.out
          rw [e, HGD.out] at h2
          cases h2
        have far : ∀ k, k ≠ D → (wr.putObj D (.deferred none)).heap[k]? = wr.heap[k]? := fun k hk => World.putObj_heap_other hk
        have keepH : ∀ {zs : List Int} {v : Value}, Held W T zs v → Held (wr.putObj D (.deferred none)) T zs v := fun hh => hh.keep (fun g cells hg hb => by
          obtain ⟨a1, a2, a3, a4⟩ := HCHN.out g cells _ (by omega) hb
          exact (far g a3).trans ((grown_same hG.out a4 a2).trans a1))
        refine ⟨_, results_none rfl _ _ _, rfl, .slice (some ⟨B9, 0, none⟩) come.length c9, w.heap.size + 4, subs.length + 1, ?_⟩
        obtain ⟨u, hu, hux⟩ := HGW.out
        refine ⟨u, (HA.out.tab.same ((far T hTD).trans (grown_same hG.out (HA.out.tab.lt) (by omega)))), ?_, by omega, ?_, fun j hj => ?_, ?_⟩
        · rw [HCE.out, ← bestS_len come mn cents]
          exact held_of_bel (f := fun q => tat (bestS come mn cents) q) (by rw [bestS_len]; exact HRW.out.same (far B9 hB9D)) (fun q hq => tat_get hq) (show T < B9 by omega) (by rw [bestS_len]; exact hc9) (by rw [bestS_len]; exact hcm)
        · obtain ⟨cells, h1, h2, h3⟩ := hu
          obtain ⟨a1, a2, a3, a4⟩ := HCHN.out (w.heap.size + 4) cells _ (by omega) h1
          exact ⟨cells, (far _ a3).trans ((grown_same hG.out a4 a2).trans a1), h2, h3⟩
        · rw [← List.map_drop, ← HALL.out j hj]
          exact keepH (hux j hj)
        · exact (HA.out.grown.andThen hG.out (fun k e => .inl (by injection e with e; omega))).andThen (grownBy_putObj' wr D (.deferred none)) (fun k e => .inl (by injection e with e; omega))
end Go.Proofs.YtejmlkfdkodabaaDoor
namespace Go.Proofs.YtejmlkfdkodabaaDoor
open Go.RowKit LB Go.Maps Go.Sort Go.ChangeShapes Go.Shelf Go.Proofs.YtejmlkfdkodabaaDoorW.PrintWords

theorem ownT_get {n i : Nat} (h : i < (ownT n).length) : (ownT n)[i] = if i = n then 0 else -1 := by
  have h1 : i < n + 1 := by simpa [ownT] using h
  rw [← tat_get h]
  unfold tat ownT
  rw [List.getD_eq_getElem?_getD]
  by_cases e : i = n
  · subst e
    rw [List.getElem?_append_right (by simp), if_pos rfl]
    simp
  · rw [List.getElem?_append_left (by rw [List.length_replicate]; omega), if_neg e, List.getElem?_replicate, if_pos (by omega)]
    rfl
theorem held_own {W : World} {B n c T : Nat} {f : Nat → Int} (h : BelIs W B (n + 1) f) (hf : ∀ j, j < n + 1 → f j = if j = n then 0 else -1) (hT : T < B) (hc : n + 1 ≤ c) (hn : n ≤ 2000) : Held W T (ownT n) (.slice (some ⟨B, 0, none⟩) (n + 1) c) := by
  have hl : (ownT n).length = n + 1 := by simp [ownT]
  rw [← hl]
  refine held_of_bel (f := f) (by rw [hl]; exact h) (fun i hi => ?_) hT (by rw [hl]; exact hc) (by rw [hl]; omega)
  rw [hl] at hi
  rw [hf i hi, ownT_get]
set_option maxHeartbeats 4000000 in
set_option maxRecDepth 100000 in
theorem build_low (T m i cT nI : Nat) (up : Int) (nm ln : ByteArray) (A3 AL : Option Addr) (c3 cL nL : Nat) (lp mn cents : Int) (f : Nat → Value) (w : World)
    (hT : BlkIs w T 79 (3 * m) f) (hi : i < m) (_ : m ≤ 20000) (hnI : nI ≤ 2000)
    (hc0 : 0 ≤ cents) (hc1 : cents ≤ 1000000) (hm0 : 0 ≤ mn) (hm1 : mn ≤ 2000) :
    Calls Tryd.prog 36 #[.slice (some ⟨T, 0, none⟩) m cT, .agg #[.int .i64 0, .string nm, .int .i64 up, .slice A3 nI c3], .agg #[.string ln, .int .i64 lp, .slice AL nL cL, .int .i64 mn, .int .i64 cents], .pointer (some ⟨T, 3 * i, none⟩)] w fun e w' =>
      e = .returned (.tuple #[]) ∧ ∃ vb G cr u, BlkIs w' T 79 (3 * m) (fun j => if j = 3 * i + 1 then vb else if j = 3 * i + 2 then .slice (some ⟨G, 0, none⟩) 1 cr else f j) ∧ Held w' T (bestS (ownT nI) mn cents) vb ∧ T < G ∧
        BlkIs w' G 38 1 u ∧ Held w' T (ownT nI) (u 0) ∧ w.grownBy w' (some T) := by
  have hTl := hT.lt
  obtain ⟨W4, hW4⟩ : ∃ W4, (((w.alloc (.cells #[.slice (some ⟨T, 0, none⟩) m cT] 76)).alloc (.cells #[.int .i64 0, .string nm, .int .i64 up, .slice A3 nI c3] 43)).alloc (.cells #[.string ln, .int .i64 lp, .slice AL nL cL, .int .i64 mn, .int .i64 cents] 41)).alloc (.cells #[.pointer (some ⟨T, 3 * i, none⟩)] 81) = W4 := ⟨_, rfl⟩
  have HF0 : Hid (W4.heap.size = w.heap.size + 4 ∧ Below w.heap.size w W4 ∧ W4.heap[w.heap.size]? = some (.cells #[.slice (some ⟨T, 0, none⟩) m cT] 76 (0, 0)) ∧ W4.heap[w.heap.size + 1]? = some (.cells #[.int .i64 0, .string nm, .int .i64 up, .slice A3 nI c3] 43 (0, 0)) ∧ W4.heap[w.heap.size + 1 + 1]? = some (.cells #[.string ln, .int .i64 lp, .slice AL nL cL, .int .i64 mn, .int .i64 cents] 41 (0, 0)) ∧ W4.heap[w.heap.size + 1 + 1 + 1]? = some (.cells #[.pointer (some ⟨T, 3 * i, none⟩)] 81 (0, 0))) := by
    rw [← hW4]
    exact four_boxes w _ _ _ _
  obtain ⟨z4, hB4, X0, X1, X2, X3⟩ := HF0.out
  have HB4 := hid_ hB4
  have HX := hid_ (And.intro X0 (And.intro X1 (And.intro X2 X3)))
  have x10 := boxAt X1 0 rfl
  have x13 := boxAt X1 3 rfl
  have HLB : Hid (Below W4.heap.size W4 (W4.alloc (.cells #[.int .i64 (-1)] 3))) := (Below.refl _ _).alloc (Nat.le_refl _) _
  have x13' := pw_cell_below HLB.out x13
  have HREP := hid_ (repeat_any (-1) (some ⟨W4.heap.size, 0, none⟩) 1 (nI + 1) _ (lit_one W4 (-1)) (by omega) (by omega))
  rw [z4, show ((nI + 1 : Nat) : Int) = (nI : Int) + 1 from by omega] at HREP
  clear hB4 HF0 X0 X1 X2 X3
  go_enter Tryd.func36, Tryd.ntmps36
  go_upto_region 1 with (fail)
  clear hW4
  go_upto_region 11 with (go_at_call 53; refine HREP.out.mono ?_; rintro e w5 ⟨⟨B5, c5, rfl, hc5, hB5, hbel5⟩, hb5⟩; have HB5 := hid_ (below_then HLB.out HLB.out.size hb5); have hB5' := Nat.le_trans HLB.out.size hB5; have HBEL5 := hid_ hbel5; obtain ⟨v1, v2⟩ := HBEL5.out.get (show nI < nI + 1 by omega); have x53 := boxAt (blk_below HX.out.2.2.2 HB5.out) 0 rfl; have x135 := boxAt (blk_below HX.out.2.1 HB5.out) 3 rfl; have hT5 := (hT.below HB4.out).below HB5.out; have hT10 := (hT5.off (a := ⟨B5, nI, none⟩) (show B5 ≠ T by omega) (.int .i64 0)).below ((Below.refl (w5.setCell ⟨B5, nI, none⟩ (.int .i64 0)).heap.size _).alloc (Nat.le_refl _) (.cells #[.slice (some ⟨B5, 0, none⟩) (nI + 1) c5] 38)); obtain ⟨q1, q2⟩ := hT10.get (show 3 * i + 2 < 3 * m by omega); have hnx : (nI : Int) < (nI : Int) + 1 := (by omega); clear hbel5 hb5)
  obtain ⟨W, hW⟩ : ∃ W, ((w5.setCell ⟨B5, nI, none⟩ (.int .i64 0)).alloc (.cells #[.slice (some ⟨B5, 0, none⟩) (nI + 1) c5] 38)).setCell ⟨T, 3 * i + 2, none⟩ (.slice (some ⟨w5.heap.size, 0, none⟩) 1 1) = W := ⟨_, rfl⟩
  rw [hW]
  obtain ⟨G, hGe⟩ : ∃ G, w5.heap.size = G := ⟨_, rfl⟩
  have hz5 := HB5.out.size
  have hB5l := HBEL5.out.lt
  have HI : Hid (BInv w T m G 0 (fun j => if j = 3 * i + 2 then .slice (some ⟨G, 0, none⟩) 1 1 else f j) #[.slice (some ⟨T, 0, none⟩) m cT] #[.string ln, .int .i64 lp, .slice AL nL cL, .int .i64 mn, .int .i64 cents] #[.pointer (some ⟨T, 3 * i, none⟩)] (fun _ => ownT nI) W ∧ W.cell? ⟨G, 0, none⟩ = some (.slice (some ⟨B5, 0, none⟩) (nI + 1) c5) ∧ BelIs W B5 (nI + 1) (fun j => (ownT nI).getD j 0) ∧ G < W.heap.size) := by
    rw [← hW, ← hGe]
    have far : ∀ k o, k ≠ T → k ≠ B5 → w5.heap[k]? = some o → (((w5.setCell ⟨B5, nI, none⟩ (.int .i64 0)).alloc (.cells #[.slice (some ⟨B5, 0, none⟩) (nI + 1) c5] 38)).setCell ⟨T, 3 * i + 2, none⟩ (.slice (some ⟨w5.heap.size, 0, none⟩) 1 1)).heap[k]? = some o := fun k o h1 h2 h3 =>
      (Below.heap_setCell _ ⟨T, 3 * i + 2, none⟩ _ k h1).trans ((Below.heap_alloc _ _ k (by
        have := (Array.getElem?_eq_some_iff.1 h3).1
        simpa [World.setCell] using this)).trans ((Below.heap_setCell _ ⟨B5, nI, none⟩ _ k h2).trans h3))
    have hsz : (w5.setCell ⟨B5, nI, none⟩ (.int .i64 0)).heap.size = w5.heap.size := by simp [World.setCell]
    have hbl : BelIs (((w5.setCell ⟨B5, nI, none⟩ (.int .i64 0)).alloc (.cells #[.slice (some ⟨B5, 0, none⟩) (nI + 1) c5] 38)).setCell ⟨T, 3 * i + 2, none⟩ (.slice (some ⟨w5.heap.size, 0, none⟩) 1 1)) B5 (nI + 1) (fun j => if j = nI then 0 else -1) :=
      ((HBEL5.out.set (show nI < nI + 1 by omega) 0).below ((Below.refl _ _).alloc (Nat.le_refl _) _)).off (show T ≠ B5 by omega) _
    have hg : (((w5.setCell ⟨B5, nI, none⟩ (.int .i64 0)).alloc (.cells #[.slice (some ⟨B5, 0, none⟩) (nI + 1) c5] 38)).setCell ⟨T, 3 * i + 2, none⟩ (.slice (some ⟨w5.heap.size, 0, none⟩) 1 1)).heap[w5.heap.size]? = some (.cells #[.slice (some ⟨B5, 0, none⟩) (nI + 1) c5] 38 (0, 0)) := by
      refine (Below.heap_setCell _ ⟨T, 3 * i + 2, none⟩ _ _ (show w5.heap.size ≠ T by omega)).trans ?_
      have := World.alloc_heap_new (w5.setCell ⟨B5, nI, none⟩ (.int .i64 0)) (.cells #[.slice (some ⟨B5, 0, none⟩) (nI + 1) c5] 38)
      rwa [hsz] at this
    refine ⟨⟨?_, hT10.set (show 3 * i + 2 < 3 * m by omega) _, far _ _ (by omega) (by omega) (blk_below HX.out.1 HB5.out), far _ _ (by omega) (by omega) (blk_below HX.out.2.2.1 HB5.out), far _ _ (by omega) (by omega) (blk_below HX.out.2.2.2 HB5.out), fun _ => .slice (some ⟨B5, 0, none⟩) (nI + 1) c5, ⟨_, hg, by simp, fun j hj => ?_⟩, fun j _ => ?_⟩, boxAt hg 0 rfl, ?_, (Array.getElem?_eq_some_iff.1 hg).1⟩
    · refine grown_far (grown_then (grown_far (grown_then ((grown_below HB4.out).but _) HB5.out) (.inr (show w.heap.size ≤ B5 by omega)) _) ((Below.refl _ _).alloc (Nat.le_refl _) _)) (.inl rfl) _
    · obtain rfl : j = 0 := by omega
      rfl
    · exact held_own hbl (fun _ _ => rfl) (by omega) hc5 hnI
    · exact hbl.congr (fun j hj => by
        have hl : j < (ownT nI).length := by simp [ownT]; omega
        rw [getI hl, ownT_get])
  obtain ⟨hI, r1, hbc, hGlt⟩ := HI.out
  have hI := hid_ hI
  clear hW hT10 hT5 q1 q2 v1 v2 x10 x13 x13' x53 x135 HREP HI
  have hGT : T < G := by omega
  have hF := tabF_own 0 nI (C := 1000000) (by decide)
  obtain ⟨gc, rfl⟩ : ∃ gc, gc = B5 := ⟨_, rfl⟩
  have hcc : (ownT nI).length ≤ c5 := by rw [hF.len]; exact hc5
  have hcm : (ownT nI).length ≤ 1000000 := by rw [hF.len]; omega
  have hTc : T < gc := by omega
  rw [← hF.len] at r1 hbc
  generalize hcome : ownT nI = come at *
  have HCE := hid_ hcome
  clear hcome
  have hpos : 0 < come.length := by rw [hF.len]; omega
  have hle : come.length ≤ 2001 := by rw [hF.len]; omega
  have HF := hid_ hF
  have HBC := hid_ hbc
  obtain ⟨cc, rfl⟩ : ∃ cc, cc = c5 := ⟨_, rfl⟩
  obtain ⟨q1, q2⟩ := hI.out.tab.get (show 3 * i + 2 < 3 * m by omega)
  rw [if_pos rfl] at q1
  have x3 := boxAt hI.out.box3 0 rfl
  clear hF hbc
  have HCL := hid_ (clone_any come (some ⟨gc, 0, none⟩) cc W.drew (HBC.out.below (below_drew (Below.refl _ _)) |>.reads hcm (fun i hi => getI hi)) hpos hcm)
  have hTW : T < W.heap.size := hI.out.tab.lt
  have hNW := hI.out.grown.size
  have hS0 := hid_ (pw_cell_below (below_drew (Below.refl W.heap.size W)) x3)
  go_upto_region 12 with (fail)
  go_region_held3 (fun W' => W'.cell? ⟨w.heap.size + 1 + 1 + 1, 0, none⟩ = some (.pointer (some ⟨T, 3 * i, none⟩))) (first | exact hS0.out | exact HS9.out | (refine (World.cell?_setCell_other _ _ _ _ (fun e => ?_)).trans HS9.out; injection e with e1 e2; omega)) ((go_at_call 56; refine HCL.out.mono ?_; rintro e w9 ⟨⟨B9, c9, rfl, hc9, hB9, hbel9⟩, hb9⟩; have HB9 := hid_ (below_then (below_drew (Below.refl W.heap.size W)) (Below.size (below_drew (Below.refl W.heap.size W))) hb9); have HS9 := hid_ (boxAt (hI.out.below HB9.out).box3 0 rfl); have HBEL9 := hid_ hbel9; obtain ⟨y1, y2⟩ := (hI.out.below HB9.out).tab.get (show 3 * i + 1 < 3 * m by omega); clear hbel9 hb9))
  obtain ⟨WA, hWA⟩ : ∃ WA, w9.setCell ⟨T, 3 * i + 1, none⟩ (.slice (some ⟨B9, 0, none⟩) come.length c9) = WA := ⟨_, rfl⟩
  rw [hWA]
  have hB9' : W.heap.size ≤ B9 := hB9
  have hgcl : gc < W.heap.size := HBC.out.lt
  have hGl : G < W.heap.size := hGlt
  have HA := hid_ (((hI.out.below HB9.out).setT hTl (by omega) (show 3 * i + 1 < 3 * m by omega) (.slice (some ⟨B9, 0, none⟩) come.length c9)))
  have HAB : Hid (BelIs WA B9 come.length (tat come) ∧ BelIs WA gc come.length (tat come) ∧ True ∧ WA.heap.size = w9.heap.size) := by
    rw [← hWA]
    exact ⟨((HBEL9.out.congr (fun q hq => (getI hq).trans (tat_get hq).symm)).off (show T ≠ B9 by omega) _), (((HBC.out.below HB9.out).congr (fun q hq => (getI hq).trans (tat_get hq).symm)).off (show T ≠ gc by omega) _), trivial, by simp [World.setCell]⟩
  rw [hWA] at HA
  have hB9l : B9 < WA.heap.size := HAB.out.1.lt
  have hzA := HB9.out.size
  have hzA2 := HAB.out.2.2.2
  have HCHN : Hid (∀ (g : Nat) (cells : Array Value) (ty : TypeId), g ≠ T → W.heap[g]? = some (Obj.cells cells ty (0, 0)) → WA.heap[g]? = some (Obj.cells cells ty (0, 0)) ∧ g ≠ B9 ∧ g < WA.heap.size) := fun g cells ty hgT hg => by
    have hgl := (Array.getElem?_eq_some_iff.1 hg).1
    refine ⟨?_, by omega, ?_⟩
    · rw [← hWA]
      exact (Below.heap_setCell _ ⟨T, 3 * i + 1, none⟩ _ g hgT).trans ((HB9.out.block g hgl).trans hg)
    · have := HB9.out.size
      have := HAB.out.2.2.2
      omega
  have HGW := hid_ (hI.out.rest)
  clear hWA HS9 HBEL9 y1 y2 hS0 q1 q2 r1 x3 HBC HCL hI
  have HEB := hid_ (fun j (hj : j ≤ come.length) => And.intro (enF_ok (mn := mn) HF.out.ok hc0 hj) (enF_most (mn := mn) (most_le (tabF_most HF.out (show 0 ≤ 6 by decide) hnI) (Int.le_refl _)) (by decide) hc0 hc1 hle hj))
  have HTB : Hid (∀ q, -1 ≤ tat come q ∧ tat come q ≤ 12000000000) := fun q => ⟨HF.out.ok.ge q, (tabF_most HF.out (show 0 ≤ 6 by decide) hnI).at_ (by decide) q⟩
  have hnd : 1 ≤ needN mn ∧ needN mn ≤ 2000 := by unfold needN; omega
  have HND : Hid (max mn 1 = (needN mn : Int)) := by unfold needN; rw [Hid]; omega
  go_wp2
  go_loopw [12, 13] (fun e p wr => ∃ j : Nat, j ≤ come.length ∧ e = .int .i64 (enF come mn cents j) ∧ p = .int .i64 ((come.length : Int) - 1 - j) ∧ Hid (WA.grownBy wr (some B9)) ∧ Hid (BelIs wr B9 come.length (fun q => if come.length - j ≤ q then bestAt come mn cents q else tat come q))) (fun _ p _ => (intOf p + 1).toNat)
  case atStart => exact ⟨0, Nat.zero_le _, rfl, by simp, ⟨rfl, rfl, rfl, Nat.le_refl _, fun _ _ _ => rfl⟩, HAB.out.1.congr (fun q hq => (if_neg (by omega)).symm)⟩
  case round =>
    obtain ⟨j, hj, rfl, rfl, hG, hBl⟩ := hrel
    by_cases hlt : j < come.length
    · obtain ⟨q, HQ⟩ : ∃ q : Nat, Hid (come.length = j + 1 + q) := ⟨come.length - 1 - j, by rw [Hid]; omega⟩
      have hql : q < come.length := by have := HQ.out; omega
      have HQI : Hid ((come.length : Int) - 1 - j = (q : Int)) := by have := HQ.out; rw [Hid]; omega
      have HSTEP : Hid (enF come mn cents (j + 1) = if tat come (q + needN mn) ≠ -1 then max (enF come mn cents j) (tat come (q + needN mn) + ((q + needN mn : Nat) : Int) * cents) else enF come mn cents j) := by have := HQ.out; rw [Hid, enF, show come.length - (j + 1) = q by omega]
      have HBEST : Hid (bestAt come mn cents q = if enF come mn cents (j + 1) = -1 then tat come q else max (tat come q) (enF come mn cents (j + 1) - (q : Int) * cents)) := by have := HQ.out; rw [Hid, bestAt, show come.length - q = j + 1 by omega]
      obtain ⟨e1, e2⟩ := HEB.out j hj
      obtain ⟨e3, e4⟩ := HEB.out (j + 1) hlt
      obtain ⟨t3, t4⟩ := HTB.out q
      have far : ∀ k, k < WA.heap.size → k ≠ B9 → wr.heap[k]? = WA.heap[k]? := fun k h1 h2 => grown_same hG.out h1 h2
      have y1 := ((HA.out.tab.same (far T (by omega) (by omega))).get (show 3 * i + 1 < 3 * m by omega)).1
      rw [if_pos rfl] at y1
      have x3 := boxAt ((far _ (by omega) (by omega)).trans HA.out.box3) 0 rfl
      have x23 := boxAt ((far _ (by omega) (by omega)).trans HA.out.box2) 3 rfl
      have x24 := boxAt ((far _ (by omega) (by omega)).trans HA.out.box2) 4 rfl
      have HGC := hid_ (HAB.out.2.1.same (far gc (by omega) (by omega)))
      obtain ⟨b1, b2⟩ := hBl.out.get hql
      rw [if_neg (by have := HQ.out; omega)] at b1
      have hqc0 : 0 ≤ (q : Int) * cents := Int.mul_nonneg (by omega) hc0
      have hqc1 : (q : Int) * cents ≤ 2001000000 := Int.le_trans (Int.mul_le_mul_of_nonneg_right (show (q : Int) ≤ 2001 by omega) hc0) (by omega)
      have hpn : (q : Int) + max mn 1 = ((q + needN mn : Nat) : Int) := by have := HND.out; omega
      obtain ⟨t1, t2⟩ := HTB.out (q + needN mn)
      have hnc0 : 0 ≤ ((q + needN mn : Nat) : Int) * cents := Int.mul_nonneg (by omega) hc0
      have hnc1 : ((q + needN mn : Nat) : Int) * cents ≤ 4001000000 := Int.le_trans (Int.mul_le_mul_of_nonneg_right (show ((q + needN mn : Nat) : Int) ≤ 4001 by omega) hc0) (by omega)
      have HROW : Hid (∀ W', wr.grownBy W' (some B9) → ∀ v, v = bestAt come mn cents q → BelIs W' B9 come.length (fun p => if p = q then v else if come.length - j ≤ p then bestAt come mn cents p else tat come p) → BelIs W' B9 come.length (fun p => if come.length - (j + 1) ≤ p then bestAt come mn cents p else tat come p)) := fun W' _ v hv h => h.congr (fun p _ => by
        have hq := HQ.out
        by_cases e : p = q
        · subst e; rw [if_pos rfl, if_pos (by omega), hv]
        · rw [if_neg e]
          by_cases e' : come.length - j ≤ p
          · rw [if_pos e', if_pos (by omega)]
          · rw [if_neg e', if_neg (by omega)])
      rw [HQI.out]
      generalize q + needN mn = nn at *
      generalize hen1 : enF come mn cents (j + 1) = en1 at *
      have HEN := hid_ hen1
      clear hen1
      generalize enF come mn cents j = en0 at *
      have hwq : IntKind.i64.wrap ((q : Int) * cents) = (q : Int) * cents := IntWalk.i64_in _ (by omega)
      have hwq2 : IntKind.i64.wrap (en1 - (q : Int) * cents) = en1 - (q : Int) * cents := IntWalk.i64_in _ (by omega)
      have HSS := hid_ (fun W' (hB : Below wr.heap.size wr W') => And.intro (pw_cell_below hB x3) (And.intro (pw_cell_below hB y1) (pw_cell_below hB x24)))
      have hqI : (q : Int) < (come.length : Int) := by omega
      by_cases hn : nn < come.length
      · obtain ⟨c1, c2⟩ := HGC.out.get hn
        have hnI : (nn : Int) < (come.length : Int) := by omega
        by_cases ht : tat come nn = -1
        · rw [ht] at c1
          have HS1 : Hid (en1 = en0) := by rw [Hid, HSTEP.out, if_neg (by simp [ht])]
          obtain rfl : en1 = en0 := HS1.out
          clear HS1 HSTEP
          by_cases he : en1 = -1
          · have HRW := hid_ (HROW.out wr (World.grownBy.refl _ _) _ (show tat come q = _ from by rw [HBEST.out, if_pos he]) (hBl.out.congr (fun p hp => (by
              by_cases e : p = q
              · subst e; rw [if_pos rfl, if_neg (by have := HQ.out; omega)]
              · rw [if_neg e]))))
            have d2 : (en1 != (-1 : Int)) = false := by simp [he]
            clear he
            go_wp2
            go_roundw
            case rel => exact ⟨j + 1, hlt, by rw [HEN.out], by have := HQ.out; go_num, hG.out, HRW.out⟩
            case measure => simp [intOf]
          · have HBV : Hid (max (tat come q) (en1 - (q : Int) * cents) = bestAt come mn cents q) := by rw [Hid, HBEST.out, if_neg he]
            have d2 : (en1 != (-1 : Int)) = true := by simpa using he
            have hm2 := HBV.out
            generalize bestAt come mn cents q = bv at *
            clear he
            go_wp2
            obtain ⟨hz1, hz2, hz3⟩ := HSS.out _ (below_drew (Below.refl wr.heap.size wr))
            go_region
            have HGR := hid_ (grown_far (grown_then hG.out (below_drew (Below.refl wr.heap.size wr))) (.inl rfl : (⟨B9, q, none⟩ : Addr).block = B9 ∨ _) (.int .i64 bv))
            have HRW := hid_ (HROW.out _ (grown_far ((grown_below (below_drew (Below.refl wr.heap.size wr))).but (some B9)) (.inl rfl : (⟨B9, q, none⟩ : Addr).block = B9 ∨ _) (.int .i64 bv)) bv rfl ((hBl.out.below (below_drew (Below.refl wr.heap.size wr))).set hql bv))
            go_wp2
            go_roundw
            case rel => exact ⟨j + 1, hlt, by rw [HEN.out], by have := HQ.out; go_num, HGR.out, HRW.out⟩
            case measure => simp [intOf]
        · have HS1 : Hid (en1 = max en0 (tat come nn + (nn : Int) * cents)) := by rw [Hid, HSTEP.out, if_pos ht]
          have hne1 : en1 ≠ -1 := by rw [HS1.out]; omega
          have HBV : Hid (max (tat come q) (en1 - (q : Int) * cents) = bestAt come mn cents q) := by rw [Hid, HBEST.out, if_neg hne1]
          have d1 : (tat come nn != (-1 : Int)) = true := by simpa using ht
          have d2 : (en1 != (-1 : Int)) = true := by simpa using hne1
          have hw1 : IntKind.i64.wrap ((nn : Int) * cents) = (nn : Int) * cents := IntWalk.i64_in _ (by omega)
          have hw2 : IntKind.i64.wrap (tat come nn + (nn : Int) * cents) = tat come nn + (nn : Int) * cents := IntWalk.i64_in _ (by omega)
          have hm1 := HS1.out.symm
          have hm2 := HBV.out
          generalize tat come nn = tn at *
          generalize bestAt come mn cents q = bv at *
          go_wp2
          go_quiet (fail)
          go_wp2
          rename_i nq
          obtain ⟨hz1, hz2, hz3⟩ := HSS.out _ (below_drew (pw_below_drewN (Below.refl wr.heap.size wr) nq))
          go_region
          have HGR := hid_ (grown_far (grown_then hG.out (pw_below_drewN (Below.refl wr.heap.size wr) (nq + 1))) (.inl rfl : (⟨B9, q, none⟩ : Addr).block = B9 ∨ _) (.int .i64 bv))
          have HRW := hid_ (HROW.out _ (grown_far ((grown_below (pw_below_drewN (Below.refl wr.heap.size wr) (nq + 1))).but (some B9)) (.inl rfl : (⟨B9, q, none⟩ : Addr).block = B9 ∨ _) (.int .i64 bv)) bv rfl ((hBl.out.below (pw_below_drewN (Below.refl wr.heap.size wr) (nq + 1))).set hql bv))
          go_wp2
          go_roundw
          case rel => exact ⟨j + 1, hlt, by rw [HEN.out], by have := HQ.out; go_num, HGR.out, HRW.out⟩
          case measure => simp [intOf]
      · have hnI : (come.length : Int) ≤ (nn : Int) := by omega
        have ht : tat come nn = -1 := Decidable.byContradiction fun h => hn (tat_lt h)
        have HS1 : Hid (en1 = en0) := by rw [Hid, HSTEP.out, if_neg (by simp [ht])]
        obtain rfl : en1 = en0 := HS1.out
        clear HS1 HSTEP
        by_cases he : en1 = -1
        · have HRW := hid_ (HROW.out wr (World.grownBy.refl _ _) _ (show tat come q = _ from by rw [HBEST.out, if_pos he]) (hBl.out.congr (fun p hp => (by
            by_cases e : p = q
            · subst e; rw [if_pos rfl, if_neg (by have := HQ.out; omega)]
            · rw [if_neg e]))))
          have d2 : (en1 != (-1 : Int)) = false := by simp [he]
          clear he
          go_wp2
          go_roundw
          case rel => exact ⟨j + 1, hlt, by rw [HEN.out], by have := HQ.out; go_num, hG.out, HRW.out⟩
          case measure => simp [intOf]
        · have HBV : Hid (max (tat come q) (en1 - (q : Int) * cents) = bestAt come mn cents q) := by rw [Hid, HBEST.out, if_neg he]
          have d2 : (en1 != (-1 : Int)) = true := by simpa using he
          have hm2 := HBV.out
          generalize bestAt come mn cents q = bv at *
          clear he
          go_wp2
          obtain ⟨hz1, hz2, hz3⟩ := HSS.out _ (below_drew (Below.refl wr.heap.size wr))
          go_region
          have HGR := hid_ (grown_far (grown_then hG.out (below_drew (Below.refl wr.heap.size wr))) (.inl rfl : (⟨B9, q, none⟩ : Addr).block = B9 ∨ _) (.int .i64 bv))
          have HRW := hid_ (HROW.out _ (grown_far ((grown_below (below_drew (Below.refl wr.heap.size wr))).but (some B9)) (.inl rfl : (⟨B9, q, none⟩ : Addr).block = B9 ∨ _) (.int .i64 bv)) bv rfl ((hBl.out.below (below_drew (Below.refl wr.heap.size wr))).set hql bv))
          go_wp2
          go_roundw
          case rel => exact ⟨j + 1, hlt, by rw [HEN.out], by have := HQ.out; go_num, HGR.out, HRW.out⟩
          case measure => simp [intOf]
    · have hje : j = come.length := by omega
      have HRW := hid_ (hBl.out.congr (g := fun q => tat (bestS come mn cents) q) (fun q hq => (by rw [if_pos (by omega), bestS, tat_range hq])))
      clear hje hBl HEB HTB
      go_wp2
      have keepH : ∀ {zs : List Int} {v : Value}, Held W T zs v → Held wr T zs v := fun hh => hh.keep (fun g cells hg hb => by
        obtain ⟨a1, a2, a4⟩ := HCHN.out g cells _ (by omega) hb
        exact (grown_same hG.out a4 a2).trans a1)
      go_end0
      refine ⟨rfl, .slice (some ⟨B9, 0, none⟩) come.length c9, G, 1, ?_⟩
      obtain ⟨u, hu, hux⟩ := HGW.out
      refine ⟨u, (HA.out.tab.same (grown_same hG.out (HA.out.tab.lt) (by omega))), ?_, by omega, ?_, ?_, ?_⟩
      · rw [HCE.out, ← bestS_len come mn cents]
        exact held_of_bel (f := fun q => tat (bestS come mn cents) q) (by rw [bestS_len]; exact HRW.out) (fun q hq => tat_get hq) (show T < B9 by omega) (by rw [bestS_len]; exact hc9) (by rw [bestS_len]; exact hcm)
      · obtain ⟨cells, h1, h2, h3⟩ := hu
        obtain ⟨a1, a2, a4⟩ := HCHN.out G cells _ (by omega) h1
        exact ⟨cells, (grown_same hG.out a4 a2).trans a1, h2, h3⟩
      · rw [HCE.out]
        exact keepH (hux 0 (by omega))
      · exact HA.out.grown.andThen hG.out (fun k e => .inl (by injection e with e; omega))
end Go.Proofs.YtejmlkfdkodabaaDoor
