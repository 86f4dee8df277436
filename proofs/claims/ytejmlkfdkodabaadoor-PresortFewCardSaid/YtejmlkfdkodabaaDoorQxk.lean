/- Texts of one proof put together. presort.share: how many pieces the subgroups of a group pass on. presort.Plan: the walk. -/
import Derived.Test.YtejmlkfdkodabaaDoorQxi
import Derived.Test.YtejmlkfdkodabaaDoorQxj
import Derived.Test.YtejmlkfdkodabaaDoorQxf
namespace Go.Proofs.YtejmlkfdkodabaaDoor
open Go.RowKit LB Go.Maps Go.Sort Go.ChangeShapes Go.Shelf Go.Proofs.YtejmlkfdkodabaaDoorW.PrintWords

/-- What share carries from subgroup to subgroup. -/
structure SInv (w0 w : World) (T m cT P cP i : Nat) (ct cl : Array Value) (sum : Nat) (saved : Int) (pf : Nat → Nat) (W : World) : Prop where
  below : Below w0.heap.size w0 W
  grown : w.grownBy W (some P)
  size : w.heap.size + 8 ≤ W.heap.size
  all : W.heap[w.heap.size]? = some (.cells #[.slice (some ⟨T, 0, none⟩) m cT] 76 (0, 0))
  pass : W.heap[w.heap.size + 1]? = some (.cells #[.slice (some ⟨P, 0, none⟩) m cP] 38 (0, 0))
  i : W.heap[w.heap.size + 1 + 1]? = some (.cells #[.int .i64 (i : Int)] 3 (0, 0))
  lev : W.heap[w.heap.size + 1 + 1 + 1]? = some (.cells cl 41 (0, 0))
  t : W.heap[w.heap.size + 4]? = some (.cells ct 79 (0, 0))
  saves : W.heap[w.heap.size + 5]? = some (.cells #[.func (.func 57) #[] #[.pointer (some ⟨w.heap.size + 1, 0, none⟩), .pointer (some ⟨w.heap.size + 1 + 1, 0, none⟩), .pointer (some ⟨w.heap.size + 1 + 1 + 1, 0, none⟩)]] 107 (0, 0))
  sum : W.heap[w.heap.size + 6]? = some (.cells #[.int .i64 (sum : Int)] 3 (0, 0))
  saved : W.heap[w.heap.size + 7]? = some (.cells #[.int .i64 saved] 3 (0, 0))
  row : BelIs W P m (fun c => (pf c : Int))
theorem SInv.below' {w0 w : World} {T m cT P cP i : Nat} {ct cl : Array Value} {sum : Nat} {saved : Int} {pf : Nat → Nat} {W W' : World} (h : SInv w0 w T m cT P cP i ct cl sum saved pf W) (hB : Below W.heap.size W W') : SInv w0 w T m cT P cP i ct cl sum saved pf W' := by
  obtain ⟨h1, h2, h3, h4, h5, h6, h7, h8, h9, h10, h11, h12⟩ := h
  exact ⟨below_then h1 h1.size hB, grown_then h2 hB, Nat.le_trans h3 hB.size, blk_below h4 hB, blk_below h5 hB, blk_below h6 hB, blk_below h7 hB, blk_below h8 hB, blk_below h9 hB, blk_below h10 hB, blk_below h11 hB, h12.below hB⟩
theorem SInv.row' {w0 w : World} {T m cT P cP i : Nat} {ct cl : Array Value} {sum : Nat} {saved : Int} {pf : Nat → Nat} {W : World} (h : SInv w0 w T m cT P cP i ct cl sum saved pf W) (hP0 : w0.heap.size ≤ P) (hP1 : P < w.heap.size) {c : Nat} (hc : c < m) (q : Nat) : SInv w0 w T m cT P cP i ct cl sum saved (fun x => if x = c then q else pf x) (W.setCell ⟨P, c, none⟩ (.int .i64 (q : Int))) := by
  obtain ⟨h1, h2, h3, h4, h5, h6, h7, h8, h9, h10, h11, h12⟩ := h
  have far : ∀ j, j ≠ P → (W.setCell ⟨P, c, none⟩ (.int .i64 (q : Int))).heap[j]? = W.heap[j]? := fun j hj => Below.heap_setCell W ⟨P, c, none⟩ _ j hj
  exact ⟨below_set h1 hP0, grown_far h2 (.inl rfl) _, by simpa [World.setCell] using h3, (far _ (by omega)).trans h4, (far _ (by omega)).trans h5, (far _ (by omega)).trans h6, (far _ (by omega)).trans h7, (far _ (by omega)).trans h8, (far _ (by omega)).trans h9, (far _ (by omega)).trans h10, (far _ (by omega)).trans h11, (h12.set hc (q : Int)).congr (fun j _ => by
    show (if j = c then (q : Int) else ((pf j : Nat) : Int)) = (((if j = c then q else pf j) : Nat) : Int)
    split <;> rfl)⟩
theorem SInv.sum' {w0 w : World} {T m cT P cP i : Nat} {ct cl : Array Value} {sum : Nat} {saved : Int} {pf : Nat → Nat} {W : World} (h : SInv w0 w T m cT P cP i ct cl sum saved pf W) (hb : Below w0.heap.size w0 w) (hP1 : P < w.heap.size) (q : Nat) : SInv w0 w T m cT P cP i ct cl q saved pf (W.setCell ⟨w.heap.size + 6, 0, none⟩ (.int .i64 (q : Int))) := by
  obtain ⟨h1, h2, h3, h4, h5, h6, h7, h8, h9, h10, h11, h12⟩ := h
  have hs := hb.size
  have far : ∀ j, j ≠ w.heap.size + 6 → (W.setCell ⟨w.heap.size + 6, 0, none⟩ (.int .i64 (q : Int))).heap[j]? = W.heap[j]? := fun j hj => Below.heap_setCell W ⟨w.heap.size + 6, 0, none⟩ _ j hj
  exact ⟨below_set h1 (show w0.heap.size ≤ w.heap.size + 6 by omega), grown_far h2 (.inr (show w.heap.size ≤ w.heap.size + 6 by omega)) _, by simpa [World.setCell] using h3, (far _ (by omega)).trans h4, (far _ (by omega)).trans h5, (far _ (by omega)).trans h6, (far _ (by omega)).trans h7, (far _ (by omega)).trans h8, (far _ (by omega)).trans h9, blk_put h10 0 _ rfl, (far _ (by omega)).trans h11, h12.off (show w.heap.size + 6 ≠ P by omega) _⟩
theorem SInv.saved' {w0 w : World} {T m cT P cP i : Nat} {ct cl : Array Value} {sum : Nat} {saved : Int} {pf : Nat → Nat} {W : World} (h : SInv w0 w T m cT P cP i ct cl sum saved pf W) (hb : Below w0.heap.size w0 w) (hP1 : P < w.heap.size) (q : Int) : SInv w0 w T m cT P cP i ct cl sum q pf (W.setCell ⟨w.heap.size + 7, 0, none⟩ (.int .i64 q)) := by
  obtain ⟨h1, h2, h3, h4, h5, h6, h7, h8, h9, h10, h11, h12⟩ := h
  have hs := hb.size
  have far : ∀ j, j ≠ w.heap.size + 7 → (W.setCell ⟨w.heap.size + 7, 0, none⟩ (.int .i64 q)).heap[j]? = W.heap[j]? := fun j hj => Below.heap_setCell W ⟨w.heap.size + 7, 0, none⟩ _ j hj
  exact ⟨below_set h1 (show w0.heap.size ≤ w.heap.size + 7 by omega), grown_far h2 (.inr (show w.heap.size ≤ w.heap.size + 7 by omega)) _, by simpa [World.setCell] using h3, (far _ (by omega)).trans h4, (far _ (by omega)).trans h5, (far _ (by omega)).trans h6, (far _ (by omega)).trans h7, (far _ (by omega)).trans h8, (far _ (by omega)).trans h9, (far _ (by omega)).trans h10, blk_put h11 0 _ rfl, h12.off (show w.heap.size + 7 ≠ P by omega) _⟩
theorem eight_boxes (w : World) (a b c d e f g h : Obj) : ((((((((w.alloc a).alloc b).alloc c).alloc d).alloc e).alloc f).alloc g).alloc h).heap.size = w.heap.size + 8 ∧ Below w.heap.size w ((((((((w.alloc a).alloc b).alloc c).alloc d).alloc e).alloc f).alloc g).alloc h) ∧ ((((((((w.alloc a).alloc b).alloc c).alloc d).alloc e).alloc f).alloc g).alloc h).heap[w.heap.size]? = some a ∧ ((((((((w.alloc a).alloc b).alloc c).alloc d).alloc e).alloc f).alloc g).alloc h).heap[w.heap.size + 1]? = some b ∧ ((((((((w.alloc a).alloc b).alloc c).alloc d).alloc e).alloc f).alloc g).alloc h).heap[w.heap.size + 1 + 1]? = some c ∧ ((((((((w.alloc a).alloc b).alloc c).alloc d).alloc e).alloc f).alloc g).alloc h).heap[w.heap.size + 1 + 1 + 1]? = some d ∧ ((((((((w.alloc a).alloc b).alloc c).alloc d).alloc e).alloc f).alloc g).alloc h).heap[w.heap.size + 4]? = some e ∧ ((((((((w.alloc a).alloc b).alloc c).alloc d).alloc e).alloc f).alloc g).alloc h).heap[w.heap.size + 5]? = some f ∧ ((((((((w.alloc a).alloc b).alloc c).alloc d).alloc e).alloc f).alloc g).alloc h).heap[w.heap.size + 6]? = some g ∧ ((((((((w.alloc a).alloc b).alloc c).alloc d).alloc e).alloc f).alloc g).alloc h).heap[w.heap.size + 7]? = some h := by
  obtain ⟨z1, b1, a0, a1, a2, a3⟩ := four_boxes w a b c d
  obtain ⟨z2, b2, c0, c1, c2, c3⟩ := four_boxes ((((w.alloc a).alloc b).alloc c).alloc d) e f g h
  rw [z1] at z2 c0 c1 c2 c3
  have k : ∀ (j : Nat) (o : Obj), ((((w.alloc a).alloc b).alloc c).alloc d).heap[j]? = some o → ((((((((w.alloc a).alloc b).alloc c).alloc d).alloc e).alloc f).alloc g).alloc h).heap[j]? = some o := fun j o ho => (b2.block j (Array.getElem?_eq_some_iff.1 ho).1).trans ho
  exact ⟨z2, below_then b1 b1.size b2, k _ _ a0, k _ _ a1, k _ _ a2, k _ _ a3, c0, c1, c2, c3⟩
/-- What is known of the numbers when j subgroups are done. -/
structure ShOk (p0 : Nat) (mn cents target : Int) (bt : Nat → List Int) (n : Nat → Nat) (subs : List Nat) (i : Nat) (pf : Nat → Nat) (j sum : Nat) (saved : Int) (pf' : Nat → Nat) : Prop where
  eq : shareF p0 mn cents target bt (subs.drop j) sum saved pf' = shareF p0 mn cents target bt subs 0 0 pf
  can : LB.Can p0 mn cents target ((subs.drop j).map bt) sum saved ∨ subs = []
  zero : ∀ c ∈ subs.drop j, pf' c = 0
  self : pf' i = pf i
  sum : sum + sumOf n (subs.drop j) ≤ sumOf n subs
  saved0 : 0 ≤ saved
  saved1 : saved ≤ (j : Int) * 12000000000
theorem ShOk.step {p0 : Nat} {mn cents target : Int} {bt : Nat → List Int} {n : Nat → Nat} {subs : List Nat} {i : Nat} {pf : Nat → Nat} {j sum K : Nat} {saved : Int} {pf' : Nat → Nat} (h : ShOk p0 mn cents target bt n subs i pf j sum saved pf') (hj : j < subs.length) (hnd : subs.Nodup) (hi : subs[j] ≠ i) (hb : TabF K (n subs[j]) 1000000 (bt subs[j])) (hK : K ≤ 6) (hn : sumOf n subs ≤ 2000) :
    tat (bt subs[j]) (leastP p0 mn cents target (bt subs[j]) (comeS ((subs.drop (j + 1)).map bt)) sum saved) ≠ -1 ∧ (∃ q, canP p0 mn cents target (bt subs[j]) (comeS ((subs.drop (j + 1)).map bt)) sum saved q = true) ∧
    ShOk p0 mn cents target bt n subs i pf (j + 1) (sum + leastP p0 mn cents target (bt subs[j]) (comeS ((subs.drop (j + 1)).map bt)) sum saved) (saved + tat (bt subs[j]) (leastP p0 mn cents target (bt subs[j]) (comeS ((subs.drop (j + 1)).map bt)) sum saved)) (fun x => if x = subs[j] then leastP p0 mn cents target (bt subs[j]) (comeS ((subs.drop (j + 1)).map bt)) sum saved else pf' x) := by
  obtain ⟨h1, h2, h3, h4, h5, h6, h7⟩ := h
  have hne : subs ≠ [] := fun e => by rw [e] at hj; exact absurd hj (by simp)
  have h2 := h2.resolve_right hne
  rw [List.drop_eq_getElem_cons hj] at h1 h2 h3 h5
  rw [List.map_cons] at h2
  obtain ⟨a1, a2⟩ := leastP_can h2
  have hp := tat_lt a1
  rw [hb.len] at hp
  rw [sumOf] at h5
  have hnb := sumOf_mem (n := n) (List.getElem_mem hj)
  have hv := (tabF_most hb hK (by omega)).at_ (by decide) (leastP p0 mn cents target (bt subs[j]) (comeS ((subs.drop (j + 1)).map bt)) sum saved)
  have hv0 := hb.ok.nn a1
  refine ⟨a1, can_some h2, h1, .inl a2, fun c hc => ?_, ?_, by omega, by omega, by omega⟩
  · have hcj : c ≠ subs[j] := fun e => by
      rw [e] at hc
      have hd := hnd
      rw [← List.take_append_drop j subs, List.drop_eq_getElem_cons hj] at hd
      have := (List.nodup_cons.1 (List.nodup_append.1 hd).2.1).1
      exact this hc
    rw [if_neg hcj]
    exact h3 c (List.mem_cons_of_mem _ hc)
  · rw [if_neg (fun e => hi e.symm)]
    exact h4
theorem least_is {p0 : Nat} {mn cents target : Int} {b rest : List Int} {sum : Nat} {saved : Int} {q : Nat} (h : canP p0 mn cents target b rest sum saved q = true) (h' : ∀ r, r < q → canP p0 mn cents target b rest sum saved r = false) : leastP p0 mn cents target b rest sum saved = q := by
  obtain ⟨a1, a2⟩ := leastP_spec ⟨q, h⟩
  rcases Nat.lt_trichotomy (leastP p0 mn cents target b rest sum saved) q with e | e | e
  · rw [h' _ e] at a1; cases a1
  · exact e
  · rw [a2 _ e] at h; cases h
set_option maxHeartbeats 4000000 in
set_option maxRecDepth 100000 in
theorem share_any (T m cT P cP i nL cL G cr K : Nat) (ln : ByteArray) (lp mn cents : Int) (AL : Option Addr) (f u : Nat → Value) (subs : List Nat) (bt : Nat → List Int) (n : Nat → Nat) (own : List Int) (pf : Nat → Nat) (w0 w : World)
    (hb : Below w0.heap.size w0 w) (hP0 : w0.heap.size ≤ P) (hT : BlkIs w0 T 79 (3 * m) f) (hrow : BelIs w P m (fun c => (pf c : Int))) (hi : i < m) (hm : m ≤ 20000)
    (hsubs : Held w0 T (subs.map ofN) (f (3 * i))) (hnd : subs.Nodup) (hsub : ∀ c ∈ subs, c < m ∧ c ≠ i ∧ pf c = 0 ∧ Held w0 T (bt c) (f (3 * c + 1)) ∧ TabF K (n c) 1000000 (bt c)) (hK : K ≤ 6) (hsum : sumOf n subs ≤ 2000) (hsl0 : subs.length ≤ 20000)
    (hown : Held w0 T own (f (3 * i + 1))) (hpo : pf i < own.length) (hol : own.length ≤ 4001) (hr : f (3 * i + 2) = .slice (some ⟨G, 0, none⟩) (subs.length + 1) cr) (hG : BlkIs w0 G 38 (subs.length + 1) u)
    (hrs : ∀ j, j < subs.length → Held w0 T (comeS ((subs.drop (j + 1)).map bt)) (u (j + 1))) (hcan : LB.Can (pf i) mn cents (tat own (pf i)) (subs.map bt) 0 0 ∨ subs = [])
    (hc0 : 0 ≤ cents) (hc1 : cents ≤ 1000000) (hm0 : 0 ≤ mn) (hm1 : mn ≤ 2000) :
    Calls Tryd.prog 37 #[.slice (some ⟨T, 0, none⟩) m cT, .slice (some ⟨P, 0, none⟩) m cP, .int .i64 (i : Int), .agg #[.string ln, .int .i64 lp, .slice AL nL cL, .int .i64 mn, .int .i64 cents]] w fun e w' =>
      e = .returned (.tuple #[]) ∧ w.grownBy w' (some P) ∧ BelIs w' P m (fun c => (shareF (pf i) mn cents (tat own (pf i)) bt subs 0 0 pf c : Int)) := by
  have hPl := hrow.lt
  have hTl := hT.lt
  have hw0 := hb.size
  have hTw := hT.below hb
  obtain ⟨As, cs, hvs, hcs, hCs, hms⟩ := hsubs.reads
  obtain ⟨gi, ci, hvb, hci, hmi, hTi, hbi⟩ := hown.bel (by omega)
  rw [List.length_map] at hvs hcs hms hCs
  obtain ⟨f1, f1'⟩ := hTw.get (show 3 * i < 3 * m by omega)
  obtain ⟨f2, f2'⟩ := hTw.get (show 3 * i + 1 < 3 * m by omega)
  obtain ⟨f3, f3'⟩ := hTw.get (show 3 * i + 2 < 3 * m by omega)
  rw [hvs] at f1
  rw [hvb] at f2
  rw [hr] at f3
  obtain ⟨W4, hW4⟩ : ∃ W4, (((w.alloc (.cells #[.slice (some ⟨T, 0, none⟩) m cT] 76)).alloc (.cells #[.slice (some ⟨P, 0, none⟩) m cP] 38)).alloc (.cells #[.int .i64 (i : Int)] 3)).alloc (.cells #[.string ln, .int .i64 lp, .slice AL nL cL, .int .i64 mn, .int .i64 cents] 41) = W4 := ⟨_, rfl⟩
  obtain ⟨W8, hW8⟩ : ∃ W8, (((W4.alloc (.cells #[.slice As subs.length cs, .slice (some ⟨gi, 0, none⟩) own.length ci, .slice (some ⟨G, 0, none⟩) (subs.length + 1) cr] 79)).alloc (.cells #[.func (.func 57) #[] #[.pointer (some ⟨w.heap.size + 1, 0, none⟩), .pointer (some ⟨w.heap.size + 1 + 1, 0, none⟩), .pointer (some ⟨w.heap.size + 1 + 1 + 1, 0, none⟩)]] 107)).alloc (.cells #[.int .i64 0] 3)).alloc (.cells #[.int .i64 0] 3) = W8 := ⟨_, rfl⟩
  have HS8 : Hid (SInv w0 w T m cT P cP i #[.slice As subs.length cs, .slice (some ⟨gi, 0, none⟩) own.length ci, .slice (some ⟨G, 0, none⟩) (subs.length + 1) cr] #[.string ln, .int .i64 lp, .slice AL nL cL, .int .i64 mn, .int .i64 cents] 0 0 pf W8) := by
    obtain ⟨z, hB, a0, a1, a2, a3, a4, a5, a6, a7⟩ := eight_boxes w (.cells #[.slice (some ⟨T, 0, none⟩) m cT] 76) (.cells #[.slice (some ⟨P, 0, none⟩) m cP] 38) (.cells #[.int .i64 (i : Int)] 3) (.cells #[.string ln, .int .i64 lp, .slice AL nL cL, .int .i64 mn, .int .i64 cents] 41) (.cells #[.slice As subs.length cs, .slice (some ⟨gi, 0, none⟩) own.length ci, .slice (some ⟨G, 0, none⟩) (subs.length + 1) cr] 79) (.cells #[.func (.func 57) #[] #[.pointer (some ⟨w.heap.size + 1, 0, none⟩), .pointer (some ⟨w.heap.size + 1 + 1, 0, none⟩), .pointer (some ⟨w.heap.size + 1 + 1 + 1, 0, none⟩)]] 107) (.cells #[.int .i64 0] 3) (.cells #[.int .i64 0] 3)
    rw [hW4, hW8] at z hB a0 a1 a2 a3 a4 a5 a6 a7
    exact ⟨below_then hb hb.size hB, (grown_below hB).but _, by omega, a0, a1, a2, a3, a4, a5, a6, a7, hrow.below hB⟩
  have HF4 : Hid (W4.heap.size = w.heap.size + 4 ∧ Below w.heap.size w W4 ∧ W4.heap[w.heap.size]? = some (.cells #[.slice (some ⟨T, 0, none⟩) m cT] 76 (0, 0)) ∧ W4.heap[w.heap.size + 1 + 1]? = some (.cells #[.int .i64 (i : Int)] 3 (0, 0))) := by
    rw [← hW4]
    obtain ⟨z, hB, a0, a1, a2, a3⟩ := four_boxes w (.cells #[.slice (some ⟨T, 0, none⟩) m cT] 76) (.cells #[.slice (some ⟨P, 0, none⟩) m cP] 38) (.cells #[.int .i64 (i : Int)] 3) (.cells #[.string ln, .int .i64 lp, .slice AL nL cL, .int .i64 mn, .int .i64 cents] 41)
    exact ⟨z, hB, a0, a2⟩
  have hil : (i : Int) < (m : Int) := by omega
  rw [Nat.mul_comm 3 i] at f1 f2 f3
  go_enter Tryd.func37, Tryd.ntmps37
  go_upto_region 1 with (fail)
  have HW8 := hid_ hW8
  clear hW4 hW8
  obtain ⟨z4, hB4, X0, X2⟩ := HF4.out
  have y0 := boxAt X0 0 rfl
  have y2 := boxAt X2 0 rfl
  have f1 := pw_cell_below hB4 f1
  have f2 := pw_cell_below hB4 f2
  have f3 := pw_cell_below hB4 f3
  have hst : (store ⟨w.heap.size + 4 + 1, 0, none⟩ (.func (.func 57) #[] #[.pointer (some ⟨w.heap.size + 1, 0, none⟩), .pointer (some ⟨w.heap.size + 1 + 1, 0, none⟩), .pointer (some ⟨w.heap.size + 1 + 1 + 1, 0, none⟩)])).run Tryd.prog ((W4.alloc (.cells #[.slice As subs.length cs, .slice (some ⟨gi, 0, none⟩) own.length ci, .slice (some ⟨G, 0, none⟩) (subs.length + 1) cr] 79)).alloc (.cells #[.nilFunc] 107)) = .ok () ((W4.alloc (.cells #[.slice As subs.length cs, .slice (some ⟨gi, 0, none⟩) own.length ci, .slice (some ⟨G, 0, none⟩) (subs.length + 1) cr] 79)).alloc (.cells #[.func (.func 57) #[] #[.pointer (some ⟨w.heap.size + 1, 0, none⟩), .pointer (some ⟨w.heap.size + 1 + 1, 0, none⟩), .pointer (some ⟨w.heap.size + 1 + 1 + 1, 0, none⟩)]] 107)) := by
    have hz : (W4.alloc (.cells #[.slice As subs.length cs, .slice (some ⟨gi, 0, none⟩) own.length ci, .slice (some ⟨G, 0, none⟩) (subs.length + 1) cr] 79)).heap.size = w.heap.size + 4 + 1 := by simp [z4]
    rw [← hz, run_store _ _ _ _ _ rfl, boxAt (blk_new _ _) 0 rfl]
    simp only [blk_frozen (blk_new _ _) 0]
    rw [World.setCell_alloc_new]
    rfl
  go_upto_region 5 with (fail)
  rw [HW8.out]
  have HSH0 : Hid (ShOk (pf i) mn cents (tat own (pf i)) bt n subs i pf 0 0 0 pf) := ⟨rfl, hcan, fun c hc => (hsub c hc).2.2.1, rfl, by rw [List.drop_zero]; omega, by omega, by omega⟩
  have HB00 := hid_ hb
  clear HW8 hst f1 f2 f3 y0 y2 HF4 hB4 X0 X2 z4 f1' f2' f3' hCs hcan hTw hrow hb
  go_loopw [23] (fun x wr => ∃ j : Nat, j ≤ subs.length ∧ x = .int .i64 j ∧ ∃ (sum : Nat) (saved : Int) (pf' : Nat → Nat), Hid (SInv w0 w T m cT P cP i #[.slice As subs.length cs, .slice (some ⟨gi, 0, none⟩) own.length ci, .slice (some ⟨G, 0, none⟩) (subs.length + 1) cr] #[.string ln, .int .i64 lp, .slice AL nL cL, .int .i64 mn, .int .i64 cents] sum saved pf' wr) ∧ Hid (ShOk (pf i) mn cents (tat own (pf i)) bt n subs i pf j sum saved pf')) (fun x _ => subs.length - (intOf x).toNat)
  case atStart => exact ⟨0, Nat.zero_le _, rfl, 0, 0, pf, HS8.out, HSH0.out⟩
  case round =>
    obtain ⟨wo, rfl⟩ : ∃ wo : World, wo = wr := ⟨_, rfl⟩
    obtain ⟨j, hj, rfl, sum, saved, pf', hI, hO⟩ := hrel
    by_cases hlt : j < subs.length
    · obtain ⟨gs, cs', hv', hcs', hms', hTs, hbs⟩ := hsubs.bel (by rw [List.length_map]; omega)
      rw [hvs, List.length_map] at hv'
      rw [List.length_map] at hbs
      injection hv' with hv1 hv2 hv3
      subst hv1
      clear hv2 hv3 hcs' hms'
      obtain ⟨c1, c2, c3, c4, c5⟩ := hsub subs[j] (List.getElem_mem hlt)
      obtain ⟨g1, g2⟩ := (hbs.below hI.out.below).get hlt
      have hsj : (subs.map ofN).getD j 0 = ((subs[j] : Nat) : Int) := by rw [getI (by simpa using hlt), List.getElem_map]; rfl
      rw [hsj] at g1
      obtain ⟨s1, s2, s3⟩ := hO.out.step hlt hnd c2 c5 hK hsum
      have HST := hid_ s3
      have HP1 := hid_ s1
      have HP2 := hid_ s2
      have HRT : Hid (TabF K (sumOf n (subs.drop (j + 1))) 1000000 (comeS ((subs.drop (j + 1)).map bt))) := tabF_come (by decide) (fun c hc => (hsub c (List.mem_of_mem_drop hc)).2.2.2.2)
      have hdr := sumOf_drop n subs (j + 1)
      have hsv0 := hO.out.saved0
      have hsv1 := hO.out.saved1
      have HZC : Hid (pf' subs[j] = 0) := hO.out.zero _ (by rw [List.drop_eq_getElem_cons hlt]; exact List.mem_cons_self)
      have HSF := hid_ hO.out.self
      obtain ⟨gb, cb, hub, hcb, hmb, hTb, hbb⟩ := c4.bel (by rw [c5.len]; omega)
      obtain ⟨gr, crr, hur, hcrr, hmr, hTr, hbr⟩ := (hrs j hlt).bel (comeS_pos (fun b hb => by
        obtain ⟨c, hc, rfl⟩ := List.mem_map.1 hb
        have := (hsub c (List.mem_of_mem_drop hc)).2.2.2.2.len
        omega))
      have HBR := hid_ (And.intro hbb (And.intro hbr (And.intro hub hur)))
      have hbl := c5.len
      have hnb := sumOf_mem (n := n) (List.getElem_mem hlt)
      have hsmx : sum ≤ 2000 := by have := hO.out.sum; omega
      have hsl := hI.out.size
      clear s1 s2 s3 c4 hbb hbr hub hur hbs hsj hO
      generalize hce : subs[j] = c at *
      have HCE := hid_ hce
      clear hce
      generalize hpst : leastP (pf i) mn cents (tat own (pf i)) (bt c) (comeS ((subs.drop (j + 1)).map bt)) sum saved = pst at *
      have HPS := hid_ hpst
      clear hpst
      generalize hrest : comeS ((subs.drop (j + 1)).map bt) = rest at *
      have HRE := hid_ hrest
      clear hrest
      obtain ⟨W1, hW1⟩ : ∃ W1, (wo.alloc (.cells #[.int .i64 (j : Int)] 3)).alloc (.cells #[.int .i64 (c : Int)] 3) = W1 := ⟨_, rfl⟩
      have HW1 : Hid (Below wo.heap.size wo W1 ∧ W1.heap[wo.heap.size]? = some (.cells #[.int .i64 (j : Int)] 3 (0, 0)) ∧ W1.heap[wo.heap.size + 1]? = some (.cells #[.int .i64 (c : Int)] 3 (0, 0)) ∧ W1.heap.size = wo.heap.size + 2) := by
        rw [← hW1]
        exact ⟨((Below.refl _ _).alloc (Nat.le_refl _) _).alloc (by simp) _, (Below.heap_alloc _ _ _ (by simp)).trans (World.alloc_heap_new _ _), blk_new2 wo _ _, by simp⟩
      have hsw := HW1.out.2.2.2
      have HF0 : Hid ((fun x => if x = c then 0 else pf' x) = pf') := funext fun x => by
        show (if x = c then 0 else pf' x) = pf' x
        split
        · rename_i e; rw [e, HZC.out]
        · rfl
      have hcI : (c : Int) < (m : Int) := by omega
      have hpn : pst ≤ n c := by have := tat_lt HP1.out; rw [c5.len] at this; omega
      go_wp2
      clear hW1
      go_loopw [29] (fun _ W' => ∃ q : Nat, q ≤ pst ∧ Hid (SInv w0 w T m cT P cP i #[.slice (some ⟨gs, 0, none⟩) subs.length cs, .slice (some ⟨gi, 0, none⟩) own.length ci, .slice (some ⟨G, 0, none⟩) (subs.length + 1) cr] #[.string ln, .int .i64 lp, .slice AL nL cL, .int .i64 mn, .int .i64 cents] sum saved (fun x => if x = c then q else pf' x) W') ∧ Hid (W'.heap[wo.heap.size]? = some (.cells #[.int .i64 (j : Int)] 3 (0, 0)) ∧ W'.heap[wo.heap.size + 1]? = some (.cells #[.int .i64 (c : Int)] 3 (0, 0)) ∧ wo.heap.size + 2 ≤ W'.heap.size) ∧ Hid (∀ r, r < q → canP (pf i) mn cents (tat own (pf i)) (bt c) rest sum saved r = false)) (fun _ W' => pst + 1 - (intOf ((W'.cell? ⟨P, c, none⟩).getD undef)).toNat)
      case atStart => exact ⟨0, Nat.zero_le _, by rw [HF0.out]; exact hI.out.below' HW1.out.1, ⟨HW1.out.2.1, HW1.out.2.2.1, by omega⟩, fun r h => absurd h (by omega)⟩
      case round =>
        obtain ⟨q, hq, hJ, hKC, hF⟩ := hrel
        have hX : CanBox wr T m cT P cP i c j sum w.heap.size (wo.heap.size + 1) (w.heap.size + 4) wo.heap.size (w.heap.size + 5) (w.heap.size + 6) (w.heap.size + 7) (w.heap.size + 1) (w.heap.size + 1 + 1) (w.heap.size + 1 + 1 + 1) saved #[.slice (some ⟨gs, 0, none⟩) subs.length cs, .slice (some ⟨gi, 0, none⟩) own.length ci, .slice (some ⟨G, 0, none⟩) (subs.length + 1) cr] #[.string ln, .int .i64 lp, .slice AL nL cL, .int .i64 mn, .int .i64 cents] (fun x => if x = c then q else pf' x) :=
          ⟨hJ.out.all, hKC.out.2.1, hJ.out.t, hKC.out.1, hJ.out.saves, hJ.out.sum, hJ.out.saved, hJ.out.pass, hJ.out.i, hJ.out.lev, hJ.out.row⟩
        have hpi : (if i = c then q else pf' i) = pf i := by rw [if_neg (fun e => c2 e.symm)]; exact HSF.out
        have HB := hJ.out.below
        obtain ⟨k1, k2, k3, k4⟩ := HBR.out
        have hTc := ((hT.below HB).get (show 3 * c + 1 < 3 * m by omega)).1
        rw [k3, Nat.mul_comm 3 c] at hTc
        have hGc := ((hG.below HB).get (show j + 1 < subs.length + 1 by omega)).1
        rw [k4] at hGc
        have HCX := can_any T m cT P cP i c j subs.length q sum nL cL G gb gi gr cb ci crr cr w.heap.size (wo.heap.size + 1) (w.heap.size + 4) wo.heap.size (w.heap.size + 5) (w.heap.size + 6) (w.heap.size + 7) (w.heap.size + 1) (w.heap.size + 1 + 1) (w.heap.size + 1 + 1 + 1) saved (.slice (some ⟨gs, 0, none⟩) subs.length cs) ln lp mn cents AL (fun x => if x = c then q else pf' x) (bt c) own rest wr hX hTc
          ((k1.below HB).congr (fun x hx => (getI hx).trans (tat_get hx).symm)) (((hbi.below HB)).congr (fun x hx => (getI hx).trans (tat_get hx).symm)) hGc ((k2.below HB).congr (fun x hx => (getI hx).trans (tat_get hx).symm)) c1 hi hlt (by omega) (by show (if i = c then q else pf' i) < _; rw [hpi]; exact hpo) hm (by omega) (by rw [c5.len]; omega) hol (by rw [HRT.out.len]; omega) (by omega) hsv0 (by omega) (fun x => ⟨c5.ok.ge x, Int.le_trans ((tabF_most c5 hK (by omega)).at_ (by decide) x) (by decide)⟩) (fun x => ⟨HRT.out.ok.ge x, Int.le_trans ((tabF_most HRT.out hK (by omega)).at_ (by decide) x) (by decide)⟩) hc0 hc1 hm0 hm1
        simp only [hpi] at HCX
        have HCX := hid_ HCX
        obtain ⟨p1, p2⟩ := hJ.out.row.get c1
        rw [if_pos rfl] at p1
        have x1 := boxAt hJ.out.pass 0 rfl
        have xc := boxAt hKC.out.2.1 0 rfl
        clear hX hpi HB k1 k2 k3 k4 hTc hGc
        cases hcq : canP (pf i) mn cents (tat own (pf i)) (bt c) rest sum saved q
        · as_aux_lemma =>
            rw [hcq] at HCX
            have hql : q < pst := by
              obtain ⟨q9, h9⟩ := HP2.out
              have h8 := (leastP_spec ⟨q9, h9⟩).1
              rw [HPS.out] at h8
              rcases Nat.lt_or_ge q pst with h | h
              · exact h
              · have : q = pst := by omega
                rw [this, h8] at hcq
                cases hcq
            have HF2 : Hid (∀ r, r < q + 1 → canP (pf i) mn cents (tat own (pf i)) (bt c) rest sum saved r = false) := fun r hr => by
              by_cases e : r = q
              · rw [e]; exact hcq
              · exact hF.out r (by omega)
            have HJ2 := hid_ (fun W' (hB : Below wr.heap.size wr W') => (hJ.out.below' hB).row' hP0 hPl c1 (q + 1))
            have HCC : Hid ((fun x => if x = c then q + 1 else if x = c then q else pf' x) = fun x => if x = c then q + 1 else pf' x) := funext fun x => by
              show (if x = c then q + 1 else if x = c then q else pf' x) = if x = c then q + 1 else pf' x
              split <;> rfl
            rw [HCC.out] at HJ2
            clear hcq HF0
            go_wp2_with (go_at_call 58; refine HCX.out.mono ?_; rintro e w7 ⟨rfl, hb7⟩; have HB7 := hid_ hb7; have x17 := pw_cell_below hb7 x1; have xc7 := pw_cell_below hb7 xc; have p17 := pw_cell_below hb7 p1; have p27 := ((hJ.out.below' hb7).row.get c1).2; have HR7 := hid_ (HJ2.out _ hb7); clear hb7)
            rw [show ((q + 1 : Nat) : Int) = (q : Int) + 1 from by omega] at HR7
            have hN1 := (HR7.out.row.get c1).1
            rw [if_pos rfl] at hN1
            have HN1 := hid_ hN1
            have HKC7 : Hid ((w7.setCell ⟨P, c, none⟩ (.int .i64 ((q : Int) + 1))).heap[wo.heap.size]? = some (.cells #[.int .i64 (j : Int)] 3 (0, 0)) ∧ (w7.setCell ⟨P, c, none⟩ (.int .i64 ((q : Int) + 1))).heap[wo.heap.size + 1]? = some (.cells #[.int .i64 (c : Int)] 3 (0, 0)) ∧ wo.heap.size + 2 ≤ (w7.setCell ⟨P, c, none⟩ (.int .i64 ((q : Int) + 1))).heap.size) := by
              have hz := HB7.out.size
              exact ⟨(Below.heap_setCell w7 ⟨P, c, none⟩ _ _ (show wo.heap.size ≠ P by omega)).trans (blk_below hKC.out.1 HB7.out), (Below.heap_setCell w7 ⟨P, c, none⟩ _ _ (show wo.heap.size + 1 ≠ P by omega)).trans (blk_below hKC.out.2.1 HB7.out), by have := hKC.out.2.2; simp [World.setCell]; omega⟩
            clear hN1
            go_roundw
            case rel => exact ⟨q + 1, by omega, HR7.out, HKC7.out, HF2.out⟩
            case measure => rw [HN1.out, p1]; simp [intOf]; omega
        · as_aux_lemma =>
            rw [hcq] at HCX
            have hqe : pst = q := by rw [← HPS.out]; exact least_is hcq hF.out
            clear hcq HF0
            subst hqe
            have HST2 := hid_ HST.out
            go_wp2_with (go_at_call 58; refine HCX.out.mono ?_; rintro e w7 ⟨rfl, hb7⟩; have HJ7 := hid_ (hJ.out.below' hb7); have xc7 := pw_cell_below hb7 xc; have xb7 := hid_ (blk_below hKC.out.2.1 hb7); have hz7 := hb7.size; have hKz := hKC.out.2.2; have x17 := pw_cell_below hb7 x1; have p17 := pw_cell_below hb7 p1; have x67 : w7.cell? ⟨w.heap.size + 4 + 1 + 1, 0, none⟩ = some (.int .i64 (sum : Int)) := boxAt HJ7.out.sum 0 rfl; have x68 : w7.frozen? ⟨w.heap.size + 4 + 1 + 1, 0, none⟩ = false := blk_frozen HJ7.out.sum 0; clear hb7 x1 xc p1 p2)
            go_region
            obtain ⟨w10, hw10⟩ : ∃ w10, (w7.setCell ⟨w.heap.size + 4 + 1 + 1, 0, none⟩ (.int .i64 ((sum : Int) + (pst : Int)))).drew = w10 := ⟨_, rfl⟩
            rw [hw10]
            have h10 := (HJ7.out.sum' HB00.out hPl (sum + pst)).below' (below_drew (Below.refl _ _))
            rw [show ((sum + pst : Nat) : Int) = (sum : Int) + (pst : Int) from by omega] at h10
            have hw10' : (w7.setCell ⟨w.heap.size + 6, 0, none⟩ (.int .i64 ((sum : Int) + (pst : Int)))).drew = w10 := hw10
            rw [hw10'] at h10
            have hc10 : w10.heap[wo.heap.size + 1]? = some (.cells #[.int .i64 (c : Int)] 3 (0, 0)) := by
              rw [← hw10]
              exact (Below.heap_setCell w7 ⟨w.heap.size + 4 + 1 + 1, 0, none⟩ _ _ (show wo.heap.size + 1 ≠ w.heap.size + 4 + 1 + 1 by omega)).trans xb7.out
            have HJ10 := hid_ h10
            clear h10 hw10 hw10' xc7 x17 p17 x67 x68
            have e1 : w10.cell? ⟨w.heap.size + 4 + 1 + 1 + 1, 0, none⟩ = some (.int .i64 saved) := boxAt HJ10.out.saved 0 rfl
            have e1' : w10.frozen? ⟨w.heap.size + 4 + 1 + 1 + 1, 0, none⟩ = false := blk_frozen HJ10.out.saved 0
            have e2 := boxAt HJ10.out.all 0 rfl
            have e3 := boxAt hc10 0 rfl
            have e4 := boxAt HJ10.out.pass 0 rfl
            obtain ⟨e5, e6⟩ := HJ10.out.row.get c1
            rw [if_pos rfl] at e5
            obtain ⟨k1, k2, k3, k4⟩ := HBR.out
            have e7 := ((hT.below HJ10.out.below).get (show 3 * c + 1 < 3 * m by omega)).1
            rw [k3, Nat.mul_comm 3 c] at e7
            have hpl := tat_lt HP1.out
            obtain ⟨e8, e9⟩ := (k1.below HJ10.out.below).get hpl
            rw [getI hpl, ← tat_get hpl] at e8
            have hplI : (pst : Int) < ((bt c).length : Int) := by omega
            have hvb1 := c5.ok.ge pst
            have hvb2 := (tabF_most c5 hK (by omega)).at_ (by decide) pst
            clear k1 k2 k3 k4 hc10
            generalize tat (bt c) pst = v at *
            go_wp2
            have h11 := (HJ10.out.saved' HB00.out hPl (saved + v)).below' (below_drew (Below.refl _ _))
            have HJ11 := hid_ h11
            clear h11
            go_region
            go_wp2
            go_roundw
            case rel => exact ⟨j + 1, by omega, by go_num, sum + pst, saved + v, _, HJ11.out, HST2.out⟩
            case measure => simp [intOf]; omega
    · have hje : j = subs.length := by omega
      subst hje
      have HE : Hid (pf' = shareF (pf i) mn cents (tat own (pf i)) bt subs 0 0 pf) := by
        have h := hO.out.eq
        rw [List.drop_length] at h
        exact h
      go_wp2
      go_end0
      exact ⟨rfl, hI.out.grown, by rw [← HE.out]; exact hI.out.row⟩
end Go.Proofs.YtejmlkfdkodabaaDoor
namespace Go.Proofs.YtejmlkfdkodabaaDoor
open Go.RowKit LB Go.Maps Go.Sort Go.ChangeShapes Go.Shelf Go.Proofs.YtejmlkfdkodabaaDoorW.PrintWords

def subsTo (gs : List Group) (i u : Nat) : List Nat := (List.range i).filter fun c => (gAt gs c).up == ofN u
theorem subsTo_succ (gs : List Group) (i u : Nat) : subsTo gs (i + 1) u = subsTo gs i u ++ (if (gAt gs i).up = (u : Int) then [i] else []) := by
  unfold subsTo ofN
  rw [List.range_succ, List.filter_append]
  congr 1
  by_cases h : (gAt gs i).up = (u : Int)
  · rw [if_pos h]; simp [h]
  · rw [if_neg h]; simp [h]
theorem subsTo_len (gs : List Group) (i u : Nat) : (subsTo gs i u).length ≤ i := by
  unfold subsTo
  refine Nat.le_trans (List.length_filter_le _ _) (by simp)
/-- The tables while the subgroups are collected. -/
structure P1 (gs : List Group) (w3 : World) (T i : Nat) (f : Nat → Value) (W : World) : Prop where
  below : Below w3.heap.size w3 W
  tab : BlkIs W T 79 (3 * gs.length) f
  rows : ∀ u, u < gs.length → Kd.R (Kd.int .i64) 3 W (T + 1) (fun _ => True) (f (3 * u)) ((subsTo gs i u).map ofN)
  nils : ∀ u, u < gs.length → subsTo gs i u = [] → f (3 * u) = .slice none 0 0
  apart : ∀ u v, u < gs.length → v < gs.length → u ≠ v → (f (3 * u)).ownBlock = none ∨ (f (3 * u)).ownBlock ≠ (f (3 * v)).ownBlock
theorem P1.later {gs : List Group} {w3 : World} {T i : Nat} {f : Nat → Value} {W W' : World} (h : P1 gs w3 T i f W) (hB : Below W.heap.size W W') : P1 gs w3 T i f W' := by
  obtain ⟨h1, h2, h3, h4, h5⟩ := h
  exact ⟨below_then h1 h1.size hB, h2.below hB, fun u hu => Kd.R_below (h3 u hu) hB, h4, h5⟩
theorem P1.skip {gs : List Group} {w3 : World} {T i : Nat} {f : Nat → Value} {W : World} (h : P1 gs w3 T i f W) (hu : (gAt gs i).up = -1) : P1 gs w3 T (i + 1) f W := by
  obtain ⟨h1, h2, h3, h4, h5⟩ := h
  have e : ∀ u, subsTo gs (i + 1) u = subsTo gs i u := fun u => by
    rw [subsTo_succ, if_neg (by omega), List.append_nil]
  exact ⟨h1, h2, fun u hu' => by rw [e]; exact h3 u hu', fun u hu' hn => h4 u hu' (by rw [← e]; exact hn), h5⟩
theorem P1.push {gs : List Group} {w3 : World} {T i u : Nat} {f : Nat → Value} {W w1 : World} {v1 : Value} (h : P1 gs w3 T i f W) (hT : w3.heap.size ≤ T) (hu : u < gs.length) (hup : (gAt gs i).up = (u : Int))
    (hv : Kd.R (Kd.int .i64) 3 w1 (T + 1) (fun _ => True) v1 ((subsTo gs i u).map ofN ++ [(i : Int)])) (hb : Below w3.heap.size w3 w1) (hg : W.grownBy w1 (f (3 * u)).ownBlock) (hat : v1.ownBlock = (f (3 * u)).ownBlock ∨ ∃ b, v1.ownBlock = some b ∧ W.heap.size ≤ b) :
    P1 gs w3 T (i + 1) (fun j => if j = 3 * u then v1 else f j) (w1.setCell ⟨T, 3 * u, none⟩ v1) := by
  obtain ⟨h1, h2, h3, h4, h5⟩ := h
  have hTne : some T ≠ (f (3 * u)).ownBlock := fun e => by
    have := Kd.R_base (h3 u hu) T e.symm
    omega
  have hTab : BlkIs w1 T 79 (3 * gs.length) f := h2.same (hg.block T h2.lt hTne)
  have far : ∀ {xs : List Int} {v : Value}, Kd.R (Kd.int .i64) 3 w1 (T + 1) (fun _ => True) v xs → Kd.R (Kd.int .i64) 3 (w1.setCell ⟨T, 3 * u, none⟩ v1) (T + 1) (fun _ => True) v xs := fun {xs v} hr =>
    Kd.R_of_own ((Kd.own_of_R hr).kept (row := some T) ⟨rfl, rfl, rfl, by simp [World.setCell], fun k _ hk => Below.heap_setCell w1 ⟨T, 3 * u, none⟩ v1 k (fun e => hk (by rw [e]))⟩ (.inr (fun e => by
      have := Kd.R_base hr T e
      omega))) (fun _ _ => trivial)
  refine ⟨below_set hb hT, hTab.set (by omega) v1, fun x hx => ?_, fun x hx hn => ?_, fun x y hx hy hxy => ?_⟩
  · show Kd.R _ _ _ _ _ (if 3 * x = 3 * u then v1 else f (3 * x)) _
    by_cases e : x = u
    · subst e
      rw [if_pos rfl, subsTo_succ, if_pos hup, List.map_append]
      exact far hv
    · rw [if_neg (by omega), subsTo_succ, if_neg (fun e' => e (by omega)), List.append_nil]
      refine far (Kd.R_of_own ((Kd.own_of_R (h3 x hx)).kept hg ?_) (fun _ _ => trivial))
      exact h5 x u hx hu e
  · show (if 3 * x = 3 * u then v1 else f (3 * x)) = _
    by_cases e : x = u
    · subst e
      rw [subsTo_succ, if_pos hup] at hn
      simp at hn
    · rw [if_neg (by omega)]
      rw [subsTo_succ, if_neg (fun e' => e (by omega)), List.append_nil] at hn
      exact h4 x hx hn
  · show (if 3 * x = 3 * u then v1 else f (3 * x)).ownBlock = _ ∨ (if 3 * x = 3 * u then v1 else f (3 * x)).ownBlock ≠ (if 3 * y = 3 * u then v1 else f (3 * y)).ownBlock
    by_cases ex : x = u
    · subst ex
      rw [if_pos rfl, if_neg (by omega)]
      rcases hat with e | ⟨b, e, hb'⟩
      · rw [e]; exact h5 x y hx hy hxy
      · refine .inr (fun e' => ?_)
        rw [e] at e'
        have := Kd.R_lt (h3 y hy) b e'.symm
        omega
    · rw [if_neg (by omega)]
      by_cases ey : y = u
      · subst ey
        rw [if_pos rfl]
        rcases hat with e | ⟨b, e, hb'⟩
        · rw [e]; exact h5 x y hx hy hxy
        · refine .inr (fun e' => ?_)
          rw [e] at e'
          have := Kd.R_lt (h3 x hx) b e'
          omega
      · rw [if_neg (by omega)]
        exact h5 x y hx hy hxy
theorem held_of_R {W : World} {T : Nat} {v : Value} {zs : List Int} (h : Kd.R (Kd.int .i64) 3 W (T + 1) (fun _ => True) v zs) (hn : zs = [] → v = .slice none 0 0) (hm : zs.length ≤ 1000000) : Held W T zs v := by
  rcases Nat.eq_zero_or_pos zs.length with e | e
  · have := List.length_eq_zero_iff.1 e
    exact .inl ⟨this, hn this⟩
  · obtain ⟨B, c, rfl, hB, hc, hbel⟩ := bel_of_R h e
    exact held_of_bel hbel (fun i hi => getI hi) (by omega) hc hm
theorem infoTab : (Tryd.prog.info? 79).map (fun i => (i.zero, i.size, i.bytes)) = some (some (.agg #[.slice none 0 0, .slice none 0 0, .slice none 0 0]), 3, 72) := by kernel_rfl
theorem run_make_tabs (n : Nat) (hn : n ≤ 100000) (W : World) : (Instr.makeSlice 76 (.int .i64 (n : Int)) (.int .i64 (n : Int))).run Tryd.prog W = .ok (.slice (some ⟨W.heap.size, 0, none⟩) n n) (W.alloc (.cells (madeCells #[.slice none 0 0, .slice none 0 0, .slice none 0 0] (n * 3)) 79)) := by
  obtain ⟨i0, hi, hzz⟩ := Option.map_eq_some_iff.1 infoTab
  simp only [Prod.mk.injEq] at hzz
  obtain ⟨hz0, hz1, hz2⟩ := hzz
  have hr := run_make (P := Tryd.prog) W 76 79 i0 (.agg #[.slice none 0 0, .slice none 0 0, .slice none 0 0]) Tryd.underlying76 hi hz0 .i64 .i64 n n (by omega) (Int.le_refl _) (by rw [hz2]; omega) (by omega)
  simp only [Int.toNat_natCast, hz1] at hr
  exact hr
/-- The tables while they are built. -/
structure P2 (ls : List Level) (gs : List Group) (w3 : World) (T i : Nat) (f : Nat → Value) (W : World) : Prop where
  below : Below w3.heap.size w3 W
  tab : BlkIs W T 79 (3 * gs.length) f
  subs : ∀ u, u < gs.length → Held W T ((subsS gs u).map ofN) (f (3 * u))
  best : ∀ c, c < i → Held W T (bestT ls gs c) (f (3 * c + 1))
  rest : ∀ c, c < i → ∃ G cr u, f (3 * c + 2) = .slice (some ⟨G, 0, none⟩) ((subsS gs c).length + 1) cr ∧ T < G ∧ BlkIs W G 38 ((subsS gs c).length + 1) u ∧ ∀ j, j < (subsS gs c).length → Held W T (comeS (((subsS gs c).drop (j + 1)).map (bestT ls gs))) (u (j + 1))
theorem P2.start {ls : List Level} {gs : List Group} {w3 : World} {T : Nat} {f : Nat → Value} {W : World} (h : P1 gs w3 T gs.length f W) (hm : gs.length ≤ 20000) : P2 ls gs w3 T 0 f W := by
  refine ⟨h.below, h.tab, fun u hu => ?_, fun c hc => absurd hc (by omega), fun c hc => absurd hc (by omega)⟩
  refine held_of_R (h.rows u hu) (fun e => h.nils u hu (List.map_eq_nil_iff.1 e)) ?_
  rw [List.length_map]
  exact Nat.le_trans (subsTo_len gs gs.length u) (by omega)
theorem P2.later {ls : List Level} {gs : List Group} {w3 : World} {T i : Nat} {f : Nat → Value} {W W' : World} (h : P2 ls gs w3 T i f W) (hB : Below W.heap.size W W') : P2 ls gs w3 T i f W' := by
  obtain ⟨h1, h2, h3, h4, h5⟩ := h
  refine ⟨below_then h1 h1.size hB, h2.below hB, fun u hu => (h3 u hu).below hB, fun c hc => (h4 c hc).below hB, fun c hc => ?_⟩
  obtain ⟨G, cr, u, e1, e2, e3, e4⟩ := h5 c hc
  exact ⟨G, cr, u, e1, e2, e3.below hB, fun j hj => (e4 j hj).below hB⟩
theorem P2.build {ls : List Level} {gs : List Group} {w3 : World} {T i : Nat} {f : Nat → Value} {W W' : World} (h : P2 ls gs w3 T i f W) (hT : w3.heap.size ≤ T) (hi : i < gs.length) {vb : Value} {G cr : Nat} {u : Nat → Value} (hg : W.grownBy W' (some T))
    (ht : BlkIs W' T 79 (3 * gs.length) (fun j => if j = 3 * i + 1 then vb else if j = 3 * i + 2 then .slice (some ⟨G, 0, none⟩) ((subsS gs i).length + 1) cr else f j)) (hb : Held W' T (bestT ls gs i) vb) (hG : T < G) (hu : BlkIs W' G 38 ((subsS gs i).length + 1) u)
    (hr : ∀ j, j < (subsS gs i).length → Held W' T (comeS (((subsS gs i).drop (j + 1)).map (bestT ls gs))) (u (j + 1))) :
    P2 ls gs w3 T (i + 1) (fun j => if j = 3 * i + 1 then vb else if j = 3 * i + 2 then .slice (some ⟨G, 0, none⟩) ((subsS gs i).length + 1) cr else f j) W' := by
  obtain ⟨h1, h2, h3, h4, h5⟩ := h
  refine ⟨h1.grown hg h1.size (fun k e => by injection e with e; omega), ht, fun x hx => ?_, fun c hc => ?_, fun c hc => ?_⟩
  · show Held W' T _ (if 3 * x = 3 * i + 1 then _ else if 3 * x = 3 * i + 2 then _ else f (3 * x))
    rw [if_neg (by omega), if_neg (by omega)]
    exact (h3 x hx).grown hg
  · show Held W' T _ (if 3 * c + 1 = 3 * i + 1 then _ else if 3 * c + 1 = 3 * i + 2 then _ else f (3 * c + 1))
    by_cases e : c = i
    · subst e
      rw [if_pos rfl]
      exact hb
    · rw [if_neg (by omega), if_neg (by omega)]
      exact (h4 c (by omega)).grown hg
  · by_cases e : c = i
    · subst e
      refine ⟨G, cr, u, ?_, hG, hu, hr⟩
      show (if 3 * c + 2 = 3 * c + 1 then _ else if 3 * c + 2 = 3 * c + 2 then _ else f (3 * c + 2)) = _
      rw [if_neg (by omega), if_pos rfl]
    · obtain ⟨G', cr', u', e1, e2, e3, e4⟩ := h5 c (by omega)
      refine ⟨G', cr', u', ?_, e2, e3.same (grown_same hg e3.lt (by omega)), fun j hj => (e4 j hj).grown hg⟩
      show (if 3 * c + 2 = 3 * i + 1 then _ else if 3 * c + 2 = 3 * i + 2 then _ else f (3 * c + 2)) = _
      rw [if_neg (by omega), if_neg (by omega)]
      exact e1
end Go.Proofs.YtejmlkfdkodabaaDoor
