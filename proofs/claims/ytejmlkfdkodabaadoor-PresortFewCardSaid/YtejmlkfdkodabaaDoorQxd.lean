/- Texts of one proof put together. The program's functions on texts and groups (package scheme). The program's group of a prefix at a level whose labels are in order: the binary search among the labels. The program's level by itself (scheme.alone). What the program's table says of the element types: the zero value, the cells, the bytes. The reference's look at nested levels. The program's look at nested levels: the closure that takes one prefix after the other, its map of firsts, and the loop. The reference's Right, and Find, Path, has, at, Groups. -/
import Derived.Test.YtejmlkfdkodabaaDoorQxc
import Derived.Ground.NamesProg
import Derived.Shelf.Lay
import Derived.Shelf.Strings.SlTrimAscii
import Derived.Test.YtejmlkfdkodabaaDoorQxa
import Derived.Test.YtejmlkfdkodabaaDoorProg
import Derived.KernelRfl
import Derived.Maps.OwnSet
import Derived.Maps.OwnOps
import Derived.StringKeys
namespace Go.Proofs
open Go.Shelf
def Tryd.lays160_ren : Go.Shelf.Ren := ⟨fun | 160 => 62 | 232 => 79 | 231 => 78 | 227 => 80 | 234 => 82 | 233 => 81 | 236 => 84 | 235 => 83 | 228 => 92 | 271 => 95 | 151 => 94 | 197 => 93 | 120 => 99 | 152 => 98 | 260 => 97 | 137 => 100 | 119 => 101 | 224 => 102 | 225 => 103 | 217 => 104 | 266 => 105 | n => n, fun | 9 => 9 | 4 => 4 | 3 => 3 | 5 => 5 | 117 => 128 | 116 => 127 | 0 => 0 | 124 => 131 | 21 => 21 | 105 => 143 | 46 => 98 | 119 => 150 | 139 => 153 | 138 => 152 | n => n, fun | 3 => 0 | 4 => 1 | n => n⟩
theorem Tryd.lays160 : Go.Proofs.Lays.n160 Tryd.prog Tryd.lays160_ren := {
  mixed := by kernel_rfl
  f119 := Tryd.func101.trans (congrArg some (by kernel_rfl))
  f120 := Tryd.func99.trans (congrArg some (by kernel_rfl))
  f137 := Tryd.func100.trans (congrArg some (by kernel_rfl))
  f151 := Tryd.func94.trans (congrArg some (by kernel_rfl))
  f152 := Tryd.func98.trans (congrArg some (by kernel_rfl))
  f160 := Tryd.func62.trans (congrArg some (by kernel_rfl))
  f197 := Tryd.func93.trans (congrArg some (by kernel_rfl))
  f217 := Tryd.func104.trans (congrArg some (by kernel_rfl))
  f224 := Tryd.func102.trans (congrArg some (by kernel_rfl))
  f225 := Tryd.func103.trans (congrArg some (by kernel_rfl))
  f227 := Tryd.func80.trans (congrArg some (by kernel_rfl))
  f228 := Tryd.func92.trans (congrArg some (by kernel_rfl))
  f231 := Tryd.func78.trans (congrArg some (by kernel_rfl))
  f232 := Tryd.func79.trans (congrArg some (by kernel_rfl))
  f233 := Tryd.func81.trans (congrArg some (by kernel_rfl))
  f234 := Tryd.func82.trans (congrArg some (by kernel_rfl))
  f235 := Tryd.func83.trans (congrArg some (by kernel_rfl))
  f236 := Tryd.func84.trans (congrArg some (by kernel_rfl))
  f260 := Tryd.func97.trans (congrArg some (by kernel_rfl))
  f266 := Tryd.func105.trans (congrArg some (by kernel_rfl))
  f271 := Tryd.func95.trans (congrArg some (by kernel_rfl))
  t0 := Tryd.underlying0
  a0 := Tryd.isAgg0
  z0 := Tryd.sizeOf0
  v0 := Tryd.zeroValue0
  t3 := Tryd.underlying3
  a3 := Tryd.isAgg3
  z3 := Tryd.sizeOf3
  v3 := Tryd.zeroValue3
  t4 := Tryd.underlying4
  a4 := Tryd.isAgg4
  z4 := Tryd.sizeOf4
  v4 := Tryd.zeroValue4
  t5 := Tryd.underlying5
  a5 := Tryd.isAgg5
  z5 := Tryd.sizeOf5
  v5 := Tryd.zeroValue5
  t9 := Tryd.underlying9
  a9 := Tryd.isAgg9
  z9 := Tryd.sizeOf9
  v9 := Tryd.zeroValue9
  t21 := Tryd.underlying21
  a21 := Tryd.isAgg21
  z21 := Tryd.sizeOf21
  v21 := Tryd.zeroValue21
  t46 := Tryd.underlying98
  a46 := Tryd.isAgg98
  z46 := Tryd.sizeOf98
  v46 := Tryd.zeroValue98
  t105 := Tryd.underlying143
  a105 := Tryd.isAgg143
  z105 := Tryd.sizeOf143
  v105 := Tryd.zeroValue143
  t116 := Tryd.underlying127
  a116 := Tryd.isAgg127
  z116 := Tryd.sizeOf127
  t117 := Tryd.underlying128
  a117 := Tryd.isAgg128
  z117 := Tryd.sizeOf128
  v117 := Tryd.zeroValue128
  t119 := Tryd.underlying150
  a119 := Tryd.isAgg150
  z119 := Tryd.sizeOf150
  t124 := Tryd.underlying131
  a124 := Tryd.isAgg131
  z124 := Tryd.sizeOf131
  v124 := Tryd.zeroValue131
  t138 := Tryd.underlying152
  a138 := Tryd.isAgg152
  z138 := Tryd.sizeOf152
  v138 := Tryd.zeroValue152
  t139 := Tryd.underlying153
  a139 := Tryd.isAgg153
  z139 := Tryd.sizeOf153
  v139 := Tryd.zeroValue153
  g3 := by kernel_rfl
  g4 := by kernel_rfl }
end Go.Proofs
namespace Go.Proofs.YtejmlkfdkodabaaDoor
open Go.RowKit LB Go.Proofs.YtejmlkfdkodabaaDoorW.PrintWords

/-! ### texts -/
def alnum : List UInt8 := [65, 66, 67, 68, 69, 70, 71, 72, 73, 74, 75, 76, 77, 78, 79, 80, 81, 82, 83, 84, 85, 86, 87, 88, 89, 90, 48, 49, 50, 51, 52, 53, 54, 55, 56, 57]
theorem codeCh_alnum (b : UInt8) : alnum.contains b = codeCh b := by
  have h : ∀ i : Fin 256, alnum.contains (UInt8.ofNat i.val) = codeCh (UInt8.ofNat i.val) := by decide +kernel
  have := h ⟨b.toNat, b.toNat_lt⟩
  simpa using this
theorem dropWhile_nil {p : UInt8 → Bool} : ∀ {l : List UInt8}, l.dropWhile p = [] ↔ ∀ x ∈ l, p x = true
  | [] => by simp
  | x :: r => by
    rw [List.dropWhile_cons]
    cases h : p x
    · simp [h]
    · rw [if_pos rfl, dropWhile_nil]
      simp [h]
theorem all_of_drop {p : UInt8 → Bool} : ∀ {l : List UInt8}, (∀ x ∈ l.dropWhile p, p x = true) → ∀ x ∈ l, p x = true
  | [], _, _, h => by cases h
  | y :: r, H, x, hx => by
    rw [List.dropWhile_cons] at H
    cases h : p y
    · rw [h, if_neg (by simp)] at H
      exact H x hx
    · rw [h, if_pos rfl] at H
      rcases List.mem_cons.1 hx with rfl | hx
      · exact h
      · exact all_of_drop H x hx
theorem trim_nil (l cs : List UInt8) : Lib.trimS l cs = [] ↔ ∀ x ∈ l, cs.contains x = true := by
  unfold Lib.trimS Lib.trimLeftS Lib.trimRightS
  refine dropWhile_nil.trans ⟨fun h x hx => ?_, fun h x hx => ?_⟩
  · exact all_of_drop (p := (cs.contains ·)) (l := l.reverse) (fun y hy => h y (by simpa using hy)) x (by simpa using hx)
  · have : x ∈ l.reverse := (List.dropWhile_sublist (cs.contains ·)).subset (by simpa using hx)
    exact h x (by simpa using this)
theorem trim_plain (s : ByteArray) : (⟨(Lib.trimS s.data.toList alnum).toArray⟩ : ByteArray).toList.isEmpty = plainS s := by
  rw [Bool.eq_iff_iff, List.isEmpty_iff]
  unfold plainS
  rw [List.all_eq_true, ByteArray.toList_eq]
  show Lib.trimS s.data.toList alnum = [] ↔ _
  rw [trim_nil]
  simp only [codeCh_alnum]
set_option maxHeartbeats 400000 in
theorem splain_any (s : ByteArray) (w : World) (hs : s.size ≤ 9223372036854775807) :
    Calls Tryd.prog 44 #[.string s] w fun e w' => e = .returned (.bool (plainS s)) ∧ Below w.heap.size w w' := by
  have hcon := Any.strings_Trim_laid Tryd.lays160 (by kernel_rfl) s ⟨alnum.toArray⟩ w hs (by decide) (ascii_of_all (by decide))
  change Calls Tryd.prog 62 _ _ (fun e w' => e = .returned (.string ⟨(Lib.trimS s.data.toList alnum).toArray⟩) ∧ Below w.heap.size w w') at hcon
  have HV := hid_ (trim_plain s)
  generalize (⟨(Lib.trimS s.data.toList alnum).toArray⟩ : ByteArray) = r at hcon HV ⊢
  go_enter Tryd.func44, Tryd.ntmps44
  go_wp2_with (go_at_call 62; refine hcon.mono ?_; rintro e w' ⟨rfl, hB⟩)
  go_ret
  exact ⟨ret_bool HV.out, hB⟩
set_option maxHeartbeats 400000 in
theorem scode_any (s : ByteArray) (w : World) (hs : s.size ≤ 9223372036854775807) :
    Calls Tryd.prog 30 #[.string s] w fun e w' => e = .returned (.bool (codeS s)) ∧ Below w.heap.size w w' := by
  rcases (show s.size < 1 ∨ (1 ≤ s.size ∧ s.size ≤ 10) ∨ 10 < s.size from by omega) with h | ⟨h, h'⟩ | h
  · have HV : Hid (codeS s = false) := by rw [Hid, codeS_val, decide_eq_false (by omega)]; rfl
    go_enter Tryd.func30, Tryd.ntmps30
    go_wp2
    go_ret
    exact ⟨ret_bool HV.out.symm, Below.refl _ _⟩
  · have HV : Hid (codeS s = plainS s) := by rw [Hid, codeS_val, decide_eq_true (by omega), decide_eq_true (by omega)]; rfl
    have d1 : decide ((s.size : Int) ≤ 10) = true := by simp; omega
    go_enter Tryd.func30, Tryd.ntmps30
    go_wp2_with (go_at_call 44; refine (splain_any _ _ hs).mono ?_; rintro e w' ⟨rfl, hB⟩)
    go_ret
    exact ⟨ret_bool HV.out.symm, hB⟩
  · have HV : Hid (codeS s = false) := by rw [Hid, codeS_val, decide_eq_true (by omega), decide_eq_false (by omega)]; rfl
    have d1 : decide ((s.size : Int) ≤ 10) = false := by simp; omega
    go_enter Tryd.func30, Tryd.ntmps30
    go_wp2
    go_ret
    exact ⟨ret_bool HV.out.symm, Below.refl _ _⟩
set_option maxHeartbeats 400000 in
theorem snamed_any (s : ByteArray) (w : World) (hs : s.size ≤ 9223372036854775807) :
    Calls Tryd.prog 60 #[.string s] w fun e w' => e = .returned (.bool (namedS s)) ∧ w = w' := by
  go_enter Tryd.func60, Tryd.ntmps60
  go_wp2
  go_loop [3, 6] (fun j i => ∃ k : Nat, k ≤ s.size ∧ i = .int .i64 k ∧ Hid ((s.data.toList.take k).all nameCh = true)) (fun j i => s.size - (intOf i).toNat)
  case atStart => exact ⟨0, Nat.zero_le _, rfl, hid_ (by simp)⟩
  case round =>
    obtain ⟨k, hk, rfl, hall⟩ := hrel
    by_cases hlt : k < s.size
    · have hl : k < s.data.toList.length := by simpa using hlt
      have hgt := bytes_get s k hlt
      have H1 : Hid (nameCh s[k] = true → (s.data.toList.take (k + 1)).all nameCh = true) := fun h => all_next hl hall.out (by rw [hgt]; exact h)
      have H2 : Hid (nameCh s[k] = false → namedS s = false) := fun h => by
        unfold namedS
        rw [all_false_at hl (by rw [hgt]; exact h)]
        rfl
      have H3 := hid_ (nameCh_iff s[k])
      clear hgt hall
      rcases (show (33 ≤ s[k].toNat ∧ s[k].toNat ≤ 126) ∨ s[k].toNat < 33 ∨ 126 < s[k].toNat from by omega) with ⟨h, h'⟩ | h | h
      · have d1 : decide ((s[k].toNat : Int) < 33) = false := by simp; omega
        go_wp2
        go_round
        case rel => exact ⟨k + 1, by omega, by go_num, H1.out (H3.out.2 (by omega))⟩
        case measure => simp [intOf]; omega
      · have d1 : decide ((s[k].toNat : Int) < 33) = true := by simp; omega
        go_wp2
        go_ret
        exact ⟨ret_bool (H2.out (by rw [← Bool.not_eq_true, H3.out]; omega)).symm, rfl⟩
      · have d1 : decide ((s[k].toNat : Int) < 33) = false := by simp; omega
        go_wp2
        go_ret
        exact ⟨ret_bool (H2.out (by rw [← Bool.not_eq_true, H3.out]; omega)).symm, rfl⟩
    · have H4 := hid_ (namedS_val (all_of_take (by simp; omega) hall.out))
      rcases (show s.size < 1 ∨ (1 ≤ s.size ∧ s.size ≤ 20) ∨ 20 < s.size from by omega) with h | ⟨h, h'⟩ | h
      · have HV : Hid (namedS s = false) := by rw [Hid, H4.out, decide_eq_false (by omega)]; rfl
        go_wp2
        go_ret
        exact ⟨ret_bool HV.out.symm, rfl⟩
      · have HV : Hid (namedS s = true) := by rw [Hid, H4.out, decide_eq_true (by omega), decide_eq_true (by omega)]; rfl
        have d1 : decide ((s.size : Int) ≤ 20) = true := by simp; omega
        go_wp2
        go_ret
        exact ⟨ret_bool HV.out.symm, rfl⟩
      · have HV : Hid (namedS s = false) := by rw [Hid, H4.out, decide_eq_true (by omega), decide_eq_false (by omega)]; rfl
        have d1 : decide ((s.size : Int) ≤ 20) = false := by simp; omega
        go_wp2
        go_ret
        exact ⟨ret_bool HV.out.symm, rfl⟩

/-! ### comparing texts -/
def cmpS (a b : ByteArray) : Int := if ltS a b then -1 else if ltS b a then 1 else 0
theorem neqSelf (s : ByteArray) : (!(s.toList == s.toList)) = false := by simp
set_option maxHeartbeats 400000 in
theorem isNaN_any (s : ByteArray) (w : World) :
    Calls Tryd.prog 63 #[.string s] w fun e w' => e = .returned (.bool false) ∧ w = w' := by
  go_enter Tryd.func63, Tryd.ntmps63
  go_wp2
  go_ret
  exact ⟨rfl, rfl⟩
set_option maxHeartbeats 400000 in
theorem compare_any (a b : ByteArray) (w : World) :
    Calls Tryd.prog 47 #[.string a, .string b] w fun e w' => e = .returned (.int .i64 (cmpS a b)) ∧ w = w' := by
  have HV : Hid (cmpS a b = if ltS a b then -1 else if ltS b a then 1 else 0) := hid_ rfl
  by_cases h1 : ltS a b = true
  · have HV : Hid (cmpS a b = -1) := by rw [Hid, HV.out, if_pos h1]
    go_enter Tryd.func47, Tryd.ntmps47
    have h1' : Op.bytesLess a.toList b.toList = true := h1
    clear h1
    go_wp2_with (go_at_call 63; refine (isNaN_any _ _).mono ?_; rintro e w' ⟨rfl, rfl⟩)
    go_ret
    exact ⟨ret_int HV.out.symm, rfl⟩
  · by_cases h2 : ltS b a = true
    · have HV : Hid (cmpS a b = 1) := by rw [Hid, HV.out, if_neg h1, if_pos h2]
      have h1' : Op.bytesLess a.toList b.toList = false := by simpa [ltS] using h1
      have h2' : Op.bytesLess b.toList a.toList = true := h2
      have h3 : (a.toList == b.toList) = false := eqS_false.2 (ltS_ne h2).symm
      clear h1 h2
      go_enter Tryd.func47, Tryd.ntmps47
      go_wp2_with (go_at_call 63; refine (isNaN_any _ _).mono ?_; rintro e w' ⟨rfl, rfl⟩)
      go_ret
      exact ⟨ret_int HV.out.symm, rfl⟩
    · have HV : Hid (cmpS a b = 0) := by rw [Hid, HV.out, if_neg h1, if_neg h2]
      have h1' : Op.bytesLess a.toList b.toList = false := by simpa [ltS] using h1
      have h2' : Op.bytesLess b.toList a.toList = false := by simpa [ltS] using h2
      have h3 : (a.toList == b.toList) = true := by
        cases he : eqS a b
        · exact absurd (ltS_total (by simpa using h1) he) h2
        · exact he
      clear h1 h2
      go_enter Tryd.func47, Tryd.ntmps47
      go_wp2_with (go_at_call 63; refine (isNaN_any _ _).mono ?_; rintro e w' ⟨rfl, rfl⟩)
      go_ret
      exact ⟨ret_int HV.out.symm, rfl⟩
end Go.Proofs.YtejmlkfdkodabaaDoor
namespace Go.Proofs.YtejmlkfdkodabaaDoor
open Go.RowKit LB Go.Proofs.YtejmlkfdkodabaaDoorW.PrintWords

theorem asc_lt {ls : List Label} (h : ascending ls = true) : ∀ {j i : Nat} (hi : i < ls.length) (hj : j < i), ltS (ls[j]'(by omega)).pre ls[i].pre = true := by
  intro j i
  induction i with
  | zero => intro hi hj; omega
  | succ n ih =>
    intro hi hj
    have h1 := ascending_iff.1 h (n + 1) hi (by omega)
    by_cases e : j = n
    · subst e; exact h1
    · exact ltS_trans (ih (by omega) (by omega)) h1
theorem cmpS_neg {a b : ByteArray} : cmpS a b < 0 ↔ ltS a b = true := by
  unfold cmpS
  by_cases h1 : ltS a b = true
  · simp [h1]
  · by_cases h2 : ltS b a = true <;> simp [h1, h2]
theorem cmpS_zero {a b : ByteArray} : cmpS a b = 0 ↔ a = b := by
  unfold cmpS
  by_cases h1 : ltS a b = true
  · simp [h1, ltS_ne h1]
  · by_cases h2 : ltS b a = true
    · simp [h1, h2, (ltS_ne h2).symm]
    · simp only [h1, h2, if_false, Bool.false_eq_true, true_iff]
      cases he : eqS a b
      · exact absurd (ltS_total (by simpa using h1) he) h2
      · exact eqS_iff.1 he
set_option maxHeartbeats 400000 in
theorem groupc_any (x : Label) (p : ByteArray) (w : World) :
    Calls Tryd.prog 46 #[.agg #[.string x.pre, .string x.grp], .string p] w fun e w' => e = .returned (.int .i64 (cmpS x.pre p)) ∧ Below w.heap.size w w' := by
  go_enter Tryd.func46, Tryd.ntmps46
  go_wp2_with (go_at_call 47; refine (compare_any _ _ _).mono ?_; rintro e w' ⟨rfl, rfl⟩)
  go_ret
  exact ⟨rfl, (Below.refl _ _).alloc (Nat.le_refl _) _⟩
/-- What the search finds. -/
structure Sought (ls : List Label) (p : ByteArray) (i : Nat) (is : Bool) : Prop where
  got : is = true → ∃ h : i < ls.length, ls[i].pre = p
  not : is = false → ∀ x ∈ ls, x.pre ≠ p
theorem sought_of {ls : List Label} {p : ByteArray} (ha : ascending ls = true) {i : Nat} (hi : i ≤ ls.length) (h1 : ∀ t (h : t < ls.length), t < i → ltS ls[t].pre p = true) (h2 : ∀ t (h : t < ls.length), i ≤ t → ltS ls[t].pre p = false)
    {is : Bool} (his : is = true ↔ ∃ h : i < ls.length, ls[i].pre = p) : Sought ls p i is := by
  refine ⟨fun h => his.1 h, fun h x hx e => ?_⟩
  obtain ⟨t, ht, rfl⟩ := List.getElem_of_mem hx
  rcases Nat.lt_trichotomy t i with h3 | h3 | h3
  · have := h1 t ht h3
    rw [e, ltS_irrefl] at this
    cases this
  · subst h3
    have := his.2 ⟨ht, e⟩
    rw [h] at this
    cases this
  · have h4 := asc_lt ha ht h3
    have h5 := h2 i (by omega) (Nat.le_refl _)
    rw [e] at h4
    rw [h4] at h5
    cases h5
set_option maxHeartbeats 1000000 in
theorem search_any (ls : List Label) (A : Option Addr) (c : Nat) (p : ByteArray) (w : World) (hC : Kd.C kLabel w A ls.length ls) (hm : ls.length ≤ 1000000) (ha : ascending ls = true) :
    Calls Tryd.prog 45 #[.slice A ls.length c, .string p, .func (.func 46) #[] #[]] w fun e w' => (∃ (i : Nat) (is : Bool), e = .returned (.tuple #[.int .i64 i, .bool is]) ∧ Sought ls p i is) ∧ Below w.heap.size w w' := by
  have eg := enters_of Tryd.func46 (by kernel_rfl) rfl
  have HC := hid_ hC
  have HA := hid_ ha
  clear hC ha
  go_enter Tryd.func45, Tryd.ntmps45
  go_wp2
  go_loopw [9, 10] (fun s9 s10 wr => ∃ lo hi : Nat, s9 = .int .i64 lo ∧ s10 = .int .i64 hi ∧ lo ≤ hi ∧ hi ≤ ls.length ∧ Hid (Below w.heap.size w wr) ∧
    Hid ((∀ t (h : t < ls.length), t < lo → ltS ls[t].pre p = true) ∧ (∀ t (h : t < ls.length), hi ≤ t → ltS ls[t].pre p = false))) (fun s9 s10 wr => (intOf s10 - intOf s9).toNat)
  case atStart => exact ⟨0, ls.length, rfl, rfl, Nat.zero_le _, Nat.le_refl _, Below.refl _ _, ⟨fun t _ h => absurd h (Nat.not_lt_zero _), fun t h h2 => by omega⟩⟩
  case round =>
    obtain ⟨lo, hi, rfl, rfl, hlh, hin, hB, I⟩ := hrel
    by_cases hlt : lo < hi
    · obtain ⟨g, o, rfl, hg, _, h0, h1⟩ := atLabel HC.out hB.out ((lo + hi) / 2) (by omega)
      generalize hy : ls[(lo + hi) / 2]'(by omega) = y at h0 h1
      have Y := hid_ hy
      clear hy
      by_cases hyx : cmpS y.pre p < 0
      · go_wp2_with (go_at_call 46; refine (groupc_any y p _).mono ?_; rintro e w' ⟨rfl, hB1⟩)
        go_roundw
        case rel =>
          refine ⟨(lo + hi) / 2 + 1, hi, by go_num, rfl, by omega, hin, below_then hB.out hB.out.size hB1, ⟨fun t ht h => ?_, I.out.2⟩⟩
          rw [cmpS_neg, ← Y.out] at hyx
          by_cases e : t = (lo + hi) / 2
          · subst e; exact hyx
          · exact ltS_trans (asc_lt HA.out (by omega) (by omega)) hyx
        case measure => simp [intOf]; omega
      · have HN : Hid (ltS y.pre p = false) := by rw [Hid, ← Bool.not_eq_true, ← cmpS_neg]; exact hyx
        go_wp2_with (go_at_call 46; refine (groupc_any y p _).mono ?_; rintro e w' ⟨rfl, hB1⟩)
        go_roundw
        case rel =>
          refine ⟨lo, (lo + hi) / 2, rfl, by go_num, by omega, by omega, below_then hB.out hB.out.size hB1, ⟨I.out.1, fun t ht h => ?_⟩⟩
          have hyx := HN.out
          rw [← Y.out] at hyx
          by_cases e : t = (lo + hi) / 2
          · subst e; exact hyx
          · rw [← Bool.not_eq_true]
            intro h3
            rw [ltS_trans (asc_lt HA.out ht (show (lo + hi) / 2 < t from by omega)) h3] at hyx
            cases hyx
        case measure => simp [intOf]; omega
    · obtain rfl : hi = lo := by omega
      by_cases hn : hi < ls.length
      · obtain ⟨g, o, rfl, hg, _, h0, h1⟩ := atLabel HC.out hB.out hi hn
        have HS : ∀ is : Bool, Hid ((is = true ↔ ls[hi].pre = p) → Sought ls p hi is) := fun is h => sought_of HA.out hin I.out.1 I.out.2 (h.trans ⟨fun e => ⟨hn, e⟩, fun ⟨_, e⟩ => e⟩)
        have HS := hid_ HS
        generalize hy : ls[hi] = y at h0 h1 HS
        by_cases hyx : cmpS y.pre p = 0
        · have d1 : (cmpS y.pre p == 0) = true := by simpa using hyx
          have HT := hid_ (cmpS_zero.1 hyx)
          clear hyx
          go_wp2_with (go_at_call 46; refine (groupc_any y p _).mono ?_; rintro e w' ⟨rfl, hB1⟩)
          go_ret2
          exact ⟨⟨hi, true, rfl, HS.out true ⟨fun _ => HT.out, fun _ => rfl⟩⟩, below_then hB.out hB.out.size hB1⟩
        · have d1 : (cmpS y.pre p == 0) = false := by simpa using hyx
          have HT := hid_ (fun e => hyx (cmpS_zero.2 e))
          clear hyx
          go_wp2_with (go_at_call 46; refine (groupc_any y p _).mono ?_; rintro e w' ⟨rfl, hB1⟩)
          go_ret2
          exact ⟨⟨hi, false, rfl, HS.out false ⟨fun h => (by cases h), fun h => absurd h HT.out⟩⟩, below_then hB.out hB.out.size hB1⟩
      · have HS : Hid (Sought ls p hi false) := sought_of HA.out hin I.out.1 I.out.2 ⟨fun h => (by cases h), fun ⟨h, _⟩ => absurd h hn⟩
        go_wp2
        go_ret2
        exact ⟨⟨hi, false, rfl, HS.out⟩, hB.out⟩
theorem group_got {ls : List Label} {p : ByteArray} (ha : ascending ls = true) {i : Nat} (hi : i < ls.length) (he : ls[i].pre = p) : groupL ls p = ls[i].grp := by
  refine groupL_at hi ?_ (eqS_iff.2 he)
  rw [List.any_eq_false]
  intro x hx
  obtain ⟨t, ht, rfl⟩ := List.getElem_of_mem hx
  have ht' : t < i := by simp at ht; omega
  rw [List.getElem_take]
  have := asc_lt ha hi ht'
  rw [he] at this
  rw [eqS_iff]
  exact ltS_ne this
theorem group_not {ls : List Label} {p : ByteArray} (h : ∀ x ∈ ls, x.pre ≠ p) : groupL ls p = p := by
  refine groupL_none ?_
  rw [List.any_eq_false]
  intro x hx
  rw [eqS_iff]
  exact h x hx
theorem asc_inj {ls : List Label} (h : ascending ls = true) {i k : Nat} (hi : i < ls.length) (hk : k < ls.length) (e : ls[i].pre = ls[k].pre) : i = k := by
  rcases Nat.lt_trichotomy i k with h1 | h1 | h1
  · have := asc_lt h hk h1
    rw [e, ltS_irrefl] at this
    cases this
  · exact h1
  · have := asc_lt h hi h1
    rw [e, ltS_irrefl] at this
    cases this
theorem search_got {ls : List Label} {A : Option Addr} {c : Nat} {p : ByteArray} {w : World} (hC : Kd.C kLabel w A ls.length ls) (hm : ls.length ≤ 1000000) (ha : ascending ls = true) {k : Nat} (hk : k < ls.length) (he : ls[k].pre = p) :
    Calls Tryd.prog 45 #[.slice A ls.length c, .string p, .func (.func 46) #[] #[]] w fun e w' => e = .returned (.tuple #[.int .i64 k, .bool true]) ∧ Below w.heap.size w w' := by
  refine (search_any ls A c p w hC hm ha).mono ?_
  rintro e w' ⟨⟨i, is, rfl, S⟩, hB⟩
  cases is with
  | false => exact absurd he (S.not rfl _ (List.getElem_mem hk))
  | true =>
    obtain ⟨hi, e⟩ := S.got rfl
    obtain rfl := asc_inj ha hi hk (e.trans he.symm)
    exact ⟨rfl, hB⟩
theorem search_not {ls : List Label} {A : Option Addr} {c : Nat} {p : ByteArray} {w : World} (hC : Kd.C kLabel w A ls.length ls) (hm : ls.length ≤ 1000000) (ha : ascending ls = true) (hn : ∀ x ∈ ls, x.pre ≠ p) :
    Calls Tryd.prog 45 #[.slice A ls.length c, .string p, .func (.func 46) #[] #[]] w fun e w' => (∃ i : Nat, e = .returned (.tuple #[.int .i64 i, .bool false])) ∧ Below w.heap.size w w' := by
  refine (search_any ls A c p w hC hm ha).mono ?_
  rintro e w' ⟨⟨i, is, rfl, S⟩, hB⟩
  cases is with
  | false => exact ⟨⟨i, rfl⟩, hB⟩
  | true =>
    obtain ⟨hi, e⟩ := S.got rfl
    exact absurd e (hn _ (List.getElem_mem hi))
set_option maxHeartbeats 1000000 in
theorem sgroup_any (l : Level) (A : Option Addr) (c : Nat) (p : ByteArray) (w : World) (hC : Kd.C kLabel w A l.labels.length l.labels) (hm : l.labels.length ≤ 1000000) (ha : ascending l.labels = true) :
    Calls Tryd.prog 32 #[.agg #[.string l.name, .int .i64 l.pre, .slice A l.labels.length c, .int .i64 l.min, .int .i64 l.cents], .string p] w fun e w' => e = .returned (.string (groupL l.labels p)) ∧ Below w.heap.size w w' := by
  by_cases hex : ∃ k, ∃ hk : k < l.labels.length, l.labels[k].pre = p
  · obtain ⟨k, hk, he⟩ := hex
    have HS := hid_ (fun (W : World) (hB : Below w.heap.size w W) => search_got (p := p) (c := c) (Kd.C_below hC hB) hm ha hk he)
    have HG := hid_ (group_got ha hk he)
    have HC := hid_ hC
    clear hC ha he
    go_enter Tryd.func32, Tryd.ntmps32
    go_wp2_with (go_at_call 45; refine (HS.out _ ((Below.refl _ _).alloc (Nat.le_refl _) _)).mono ?_; rintro e w' ⟨rfl, hB1⟩; have HB := hid_ (below_then ((Below.refl _ _).alloc (Nat.le_refl _) _) (by simp) hB1); obtain ⟨g, o, rfl, hg, _, h0, h1⟩ := atLabel HC.out HB.out k hk; have hx := boxAt (blk_below (blk_new _ _) hB1) 2 rfl; clear hB1)
    go_ret
    exact ⟨ret_str HG.out.symm, HB.out⟩
  · have hn : ∀ x ∈ l.labels, x.pre ≠ p := fun x hx e => by
      obtain ⟨k, hk, rfl⟩ := List.getElem_of_mem hx
      exact hex ⟨k, hk, e⟩
    have HS := hid_ (fun (W : World) (hB : Below w.heap.size w W) => search_not (p := p) (c := c) (Kd.C_below hC hB) hm ha hn)
    have HG := hid_ (group_not hn)
    clear hC ha hex hn
    go_enter Tryd.func32, Tryd.ntmps32
    go_wp2_with (go_at_call 45; refine (HS.out _ ((Below.refl _ _).alloc (Nat.le_refl _) _)).mono ?_; rintro e w' ⟨⟨i, rfl⟩, hB1⟩)
    go_ret
    exact ⟨ret_str HG.out.symm, below_then ((Below.refl _ _).alloc (Nat.le_refl _) _) (by simp) hB1⟩
end Go.Proofs.YtejmlkfdkodabaaDoor
namespace Go.Proofs.YtejmlkfdkodabaaDoor
open Go.RowKit LB Go.Proofs.YtejmlkfdkodabaaDoorW.PrintWords

set_option maxHeartbeats 1000000 in
theorem salone_head (l : Level) (last : Bool) (A : Option Addr) (c : Nat) (w : World) (hf : l.Fit) (hh : headOk l = false) :
    Calls Tryd.prog 41 #[.agg #[.string l.name, .int .i64 l.pre, .slice A l.labels.length c, .int .i64 l.min, .int .i64 l.cents], .bool last] w fun e w' => e = .returned (.bool false) ∧ Below w.heap.size w w' := by
  have hn : l.name.size ≤ 9223372036854775807 := by have := hf.name; unfold reach at this; omega
  have hc : namedS l.name = false ∨ (namedS l.name = true ∧ (l.pre < 0 ∨ (0 ≤ l.pre ∧ (10 < l.pre ∨ (l.pre ≤ 10 ∧ (l.cents < 0 ∨ (0 ≤ l.cents ∧ 1000000 < l.cents))))))) := by
    cases h : namedS l.name
    · exact .inl rfl
    · refine .inr ⟨rfl, ?_⟩
      by_cases h1 : 0 ≤ l.pre <;> by_cases h2 : l.pre ≤ 10 <;> by_cases h3 : 0 ≤ l.cents <;> by_cases h4 : l.cents ≤ 1000000 <;> first | omega | (rw [headOk_of h h1 h2 h3 h4] at hh; cases hh)
  clear hh
  rcases hc with h | ⟨h, h1 | ⟨h1, h2 | ⟨h2, h3 | ⟨h3, h4⟩⟩⟩⟩
  all_goals
    go_enter Tryd.func41, Tryd.ntmps41
    go_wp2_with (go_at_call 60; refine (snamed_any _ _ hn).mono ?_; rintro e w' ⟨rfl, rfl⟩)
    go_ret
    exact ⟨rfl, (Below.refl _ _).alloc (Nat.le_refl _) _⟩
set_option maxHeartbeats 1000000 in
theorem salone_last (l : Level) (A : Option Addr) (c : Nat) (w : World) (hf : l.Fit) (hh : headOk l = true) :
    Calls Tryd.prog 41 #[.agg #[.string l.name, .int .i64 l.pre, .slice A l.labels.length c, .int .i64 l.min, .int .i64 l.cents], .bool true] w fun e w' => e = .returned (.bool (aloneS l true)) ∧ Below w.heap.size w w' := by
  have hn : l.name.size ≤ 9223372036854775807 := by have := hf.name; unfold reach at this; omega
  have HV := hid_ (alone_last hh)
  unfold headOk at hh
  simp only [Bool.and_eq_true, decide_eq_true_eq] at hh
  obtain ⟨h0, h1, h2, h3, h4⟩ := hh
  have hm : l.labels.length ≤ 9223372036854775807 := by have := hf.many; omega
  rcases (show l.pre ≠ 0 ∨ (l.pre = 0 ∧ (l.labels.length ≠ 0 ∨ (l.labels.length = 0 ∧ (l.min ≠ 0 ∨ l.min = 0)))) from by omega) with h5 | ⟨h5, h6 | ⟨h6, h7 | h7⟩⟩
  · have d5 : (l.pre == 0) = false := by simpa using h5
    have HX : Hid (aloneS l true = false) := by rw [Hid, HV.out]; simp [h5]
    clear HV
    go_enter Tryd.func41, Tryd.ntmps41
    go_wp2_with (go_at_call 60; refine (snamed_any _ _ hn).mono ?_; rintro e w' ⟨rfl, rfl⟩)
    go_ret
    exact ⟨ret_bool HX.out.symm, (Below.refl _ _).alloc (Nat.le_refl _) _⟩
  · have d5 : (l.pre == 0) = true := by simpa using h5
    have d6 : ((l.labels.length : Int) == 0) = false := by simp; simpa using h6
    have HX : Hid (aloneS l true = false) := by rw [Hid, HV.out, show l.labels.isEmpty = false from by simpa using h6]; simp
    clear HV h5 h6
    go_enter Tryd.func41, Tryd.ntmps41
    go_wp2_with (go_at_call 60; refine (snamed_any _ _ hn).mono ?_; rintro e w' ⟨rfl, rfl⟩)
    go_ret
    exact ⟨ret_bool HX.out.symm, (Below.refl _ _).alloc (Nat.le_refl _) _⟩
  · have d5 : (l.pre == 0) = true := by simpa using h5
    have d6 : ((l.labels.length : Int) == 0) = true := by simp; simpa using h6
    have d7 : (l.min == 0) = false := by simpa using h7
    have HX : Hid (aloneS l true = false) := by rw [Hid, HV.out, decide_eq_false h7]; simp
    clear HV h5 h6 h7
    go_enter Tryd.func41, Tryd.ntmps41
    go_wp2_with (go_at_call 60; refine (snamed_any _ _ hn).mono ?_; rintro e w' ⟨rfl, rfl⟩)
    go_ret
    exact ⟨ret_bool HX.out.symm, (Below.refl _ _).alloc (Nat.le_refl _) _⟩
  · have HX : Hid (aloneS l true = true) := by rw [Hid, HV.out, decide_eq_true h5, decide_eq_true h7, show l.labels.isEmpty = true from by simpa using h6]; rfl
    have d5 : (l.pre == 0) = true := by simpa using h5
    have d6 : ((l.labels.length : Int) == 0) = true := by simp; simpa using h6
    have d7 : (l.min == 0) = true := by simpa using h7
    clear HV h5 h6 h7
    go_enter Tryd.func41, Tryd.ntmps41
    go_wp2_with (go_at_call 60; refine (snamed_any _ _ hn).mono ?_; rintro e w' ⟨rfl, rfl⟩)
    go_ret
    exact ⟨ret_bool HX.out.symm, (Below.refl _ _).alloc (Nat.le_refl _) _⟩
set_option maxHeartbeats 4000000 in
theorem salone_mid (l : Level) (A : Option Addr) (c : Nat) (w : World) (hC : Kd.C kLabel w A l.labels.length l.labels) (hf : l.Fit) (hh : headOk l = true) :
    Calls Tryd.prog 41 #[.agg #[.string l.name, .int .i64 l.pre, .slice A l.labels.length c, .int .i64 l.min, .int .i64 l.cents], .bool false] w fun e w' => e = .returned (.bool (aloneS l false)) ∧ Below w.heap.size w w' := by
  have hn : l.name.size ≤ 9223372036854775807 := by have := hf.name; unfold reach at this; omega
  have hm : l.labels.length ≤ 9223372036854775807 := by have := hf.many; omega
  have HC := hid_ hC
  have HE := hid_ hf.each
  clear hC hf
  have HV := hid_ (alone_mid hh)
  have HBad : Hid ((l.labels.all (labelOk l.pre) && ascending l.labels) = false → aloneS l false = false) := fun h => by rw [HV.out, h]; rfl
  have HGood : Hid ((l.labels.all (labelOk l.pre) && ascending l.labels) = true → aloneS l false = (decide (1 ≤ l.min) && decide (l.min ≤ 2000))) := fun h => by rw [HV.out, h]; rfl
  clear HV
  unfold headOk at hh
  simp only [Bool.and_eq_true, decide_eq_true_eq] at hh
  obtain ⟨h0, h1, h2, h3, h4⟩ := hh
  go_enter Tryd.func41, Tryd.ntmps41
  go_wp2_with (go_at_call 60; refine (snamed_any _ _ hn).mono ?_; rintro e w' ⟨rfl, rfl⟩)
  go_loopw [49] (fun i wr => ∃ k : Nat, k ≤ l.labels.length ∧ i = .int .i64 k ∧ Hid (Upto l.pre l.labels k) ∧ Hid (Below w.heap.size w wr) ∧ Hid (wr.heap[w.heap.size]? = some (.cells #[.string l.name, .int .i64 l.pre, .slice A l.labels.length c, .int .i64 l.min, .int .i64 l.cents] 41 (0, 0))))
    (fun i _ => l.labels.length - (intOf i).toNat)
  case atStart => exact ⟨0, Nat.zero_le _, rfl, Upto.zero _ _, (Below.refl _ _).alloc (Nat.le_refl _) _, blk_new _ _⟩
  case round =>
    obtain ⟨k, hk, rfl, hall, hb, hx⟩ := hrel
    have b1 := boxAt hx.out 1 rfl
    have b2 := boxAt hx.out 2 rfl
    have b3 := boxAt hx.out 3 rfl
    have hsz : w.heap.size < wr.heap.size := blk_lt hx.out
    by_cases hlt : k < l.labels.length
    · obtain ⟨g, o, rfl, hg, hg', c0, c1⟩ := atLabel HC.out hb.out k hlt
      have hp1 : l.labels[k].pre.size ≤ 9223372036854775807 := by have := (HE.out _ (List.getElem_mem hlt)).pre; unfold reach at this; omega
      have hp2 : l.labels[k].grp.size ≤ 9223372036854775807 := by have := (HE.out _ (List.getElem_mem hlt)).grp; unfold reach at this; omega
      have HB1 := hid_ ((Below.refl wr.heap.size wr).alloc (Nat.le_refl _) (.cells #[.string l.labels[k].pre, .string l.labels[k].grp] 87))
      have B1 := laterCell (cellB HB1.out b1)
      have B2 := laterCell (cellB HB1.out b2)
      have L0 := laterCell (boxAt (blk_new wr (.cells #[.string l.labels[k].pre, .string l.labels[k].grp] 87)) 0 rfl)
      have L1 := laterCell (boxAt (blk_new wr (.cells #[.string l.labels[k].pre, .string l.labels[k].grp] 87)) 1 rfl)
      have HBB := hid_ (below_alloc' hb.out (.cells #[.string l.labels[k].pre, .string l.labels[k].grp] 87))
      have HBX := hid_ (blk_alloc hx.out (.cells #[.string l.labels[k].pre, .string l.labels[k].grp] 87))
      by_cases q1 : (l.labels[k].pre.size : Int) = l.pre
      · have e1 : ((l.labels[k].pre.size : Int) != l.pre) = false := by simpa using q1
        cases q2 : plainS l.labels[k].pre
        · have HX := hid_ (HBad.out (labels_bad hlt (.inl (labelOk_no (n := l.pre) (.inr (.inl q2))))))
          go_wp2
          refine wp_region_later (by kernel_rfl) (by kernel_rfl) ?_
          repeat (go_big_quiet_step (with_reducible first | (go_at_call 44; exact later_of (splain_any _ _ hp1)) | (go_at_call 60; exact later_same (snamed_any _ _ hp2))))
          refine wpQuiet_nil ?_
          rintro _ ⟨⟨W, hW⟩, rfl⟩
          go_wp2
          go_ret
          exact ⟨ret_bool HX.out.symm, below_then HBB.out HBB.out.size hW⟩
        · cases q3 : namedS l.labels[k].grp
          · have HX := hid_ (HBad.out (labels_bad hlt (.inl (labelOk_no (n := l.pre) (.inr (.inr q3))))))
            go_wp2
            refine wp_region_later (by kernel_rfl) (by kernel_rfl) ?_
            repeat (go_big_quiet_step (with_reducible first | (go_at_call 44; exact later_of (splain_any _ _ hp1)) | (go_at_call 60; exact later_same (snamed_any _ _ hp2))))
            refine wpQuiet_nil ?_
            rintro _ ⟨⟨W, hW⟩, rfl⟩
            go_wp2
            go_ret
            exact ⟨ret_bool HX.out.symm, below_then HBB.out HBB.out.size hW⟩
          · have HO := hid_ (labelOk_of q1 q2 q3)
            rcases k with _ | j
            · have HN := hid_ (hall.out.next hlt HO.out (by omega))
              rw [Nat.zero_mul, Nat.add_zero] at c0 c1
              go_wp2
              refine wp_region_later (by kernel_rfl) (by kernel_rfl) ?_
              repeat (go_big_quiet_step (with_reducible first | (go_at_call 44; exact later_of (splain_any _ _ hp1)) | (go_at_call 60; exact later_same (snamed_any _ _ hp2))))
              refine wpQuiet_nil ?_
              rintro _ ⟨⟨W, hW⟩, rfl⟩
              go_wp2
              go_roundw
              case rel => exact ⟨1, by omega, rfl, HN.out, below_then HBB.out HBB.out.size hW, blk_below HBX.out hW⟩
              case measure => simp [intOf]; omega
            · obtain ⟨g2, o2, e2, _, _, f0, _⟩ := atLabel HC.out hb.out j (by omega)
              obtain ⟨rfl, rfl⟩ : g = g2 ∧ o = o2 := by injection e2 with e2; injection e2 with e2 e3; exact ⟨e2, e3⟩
              have F0 := laterCell (cellB HB1.out f0)
              cases q4 : ltS l.labels[j].pre l.labels[j + 1].pre
              · have HX := hid_ (HBad.out (labels_bad (n := l.pre) hlt (.inr ⟨by omega, q4⟩)))
                have e4 : Op.bytesLess l.labels[j].pre.toList l.labels[j + 1].pre.toList = false := q4
                clear q4 hall
                go_wp2
                refine wp_region_later (by kernel_rfl) (by kernel_rfl) ?_
                repeat (go_big_quiet_step (with_reducible first | (go_at_call 44; exact later_of (splain_any _ _ hp1)) | (go_at_call 60; exact later_same (snamed_any _ _ hp2))))
                refine wpQuiet_nil ?_
                rintro _ ⟨⟨W, hW⟩, rfl⟩
                go_wp2
                go_ret
                exact ⟨ret_bool HX.out.symm, below_then HBB.out HBB.out.size hW⟩
              · have HN := hid_ (hall.out.next hlt HO.out (fun _ => q4))
                have e4 : Op.bytesLess l.labels[j].pre.toList l.labels[j + 1].pre.toList = true := q4
                clear q4 hall
                go_wp2
                refine wp_region_later (by kernel_rfl) (by kernel_rfl) ?_
                repeat (go_big_quiet_step (with_reducible first | (go_at_call 44; exact later_of (splain_any _ _ hp1)) | (go_at_call 60; exact later_same (snamed_any _ _ hp2))))
                refine wpQuiet_nil ?_
                rintro _ ⟨⟨W, hW⟩, rfl⟩
                go_wp2
                go_roundw
                case rel => exact ⟨j + 2, by omega, by go_num, HN.out, below_then HBB.out HBB.out.size hW, blk_below HBX.out hW⟩
                case measure => simp [intOf]; omega
      · have e1 : ((l.labels[k].pre.size : Int) != l.pre) = true := by simpa using q1
        have HX := hid_ (HBad.out (labels_bad hlt (.inl (labelOk_no (n := l.pre) (.inl q1)))))
        go_wp2
        refine wp_region_later (by kernel_rfl) (by kernel_rfl) ?_
        repeat (go_big_quiet_step (with_reducible first | (go_at_call 44; exact later_of (splain_any _ _ hp1)) | (go_at_call 60; exact later_same (snamed_any _ _ hp2))))
        refine wpQuiet_nil ?_
        rintro _ ⟨⟨W, hW⟩, rfl⟩
        go_wp2
        go_ret
        exact ⟨ret_bool HX.out.symm, below_then HBB.out HBB.out.size hW⟩
    · have HX := hid_ (HGood.out (Upto.all (show Upto l.pre l.labels l.labels.length from by rw [show l.labels.length = k from by omega]; exact hall.out)))
      rcases (show l.min < 1 ∨ (1 ≤ l.min ∧ l.min ≤ 2000) ∨ 2000 < l.min from by omega) with h5 | ⟨h5, h6⟩ | h5
      · have HY : Hid (aloneS l false = false) := by rw [Hid, HX.out, decide_eq_false (by omega)]; rfl
        go_wp2
        go_ret
        exact ⟨ret_bool HY.out.symm, hb.out⟩
      · have HY : Hid (aloneS l false = true) := by rw [Hid, HX.out, decide_eq_true h5, decide_eq_true h6]; rfl
        have d1 : decide (l.min ≤ 2000) = true := by simp; omega
        go_wp2
        go_ret
        exact ⟨ret_bool HY.out.symm, hb.out⟩
      · have HY : Hid (aloneS l false = false) := by rw [Hid, HX.out, decide_eq_true (by omega), decide_eq_false (by omega)]; rfl
        have d1 : decide (l.min ≤ 2000) = false := by simp; omega
        go_wp2
        go_ret
        exact ⟨ret_bool HY.out.symm, hb.out⟩
theorem salone_any (l : Level) (last : Bool) (A : Option Addr) (c : Nat) (w : World) (hC : Kd.C kLabel w A l.labels.length l.labels) (hf : l.Fit) :
    Calls Tryd.prog 41 #[.agg #[.string l.name, .int .i64 l.pre, .slice A l.labels.length c, .int .i64 l.min, .int .i64 l.cents], .bool last] w fun e w' => e = .returned (.bool (aloneS l last)) ∧ Below w.heap.size w w' := by
  cases hh : headOk l
  · rw [alone_head last hh]
    exact salone_head l last A c w hf hh
  · cases last
    · exact salone_mid l A c w hC hf hh
    · exact salone_last l A c w hf hh
end Go.Proofs.YtejmlkfdkodabaaDoor
namespace Go.Proofs.YtejmlkfdkodabaaDoor
theorem infoInt : (Tryd.prog.info? 3).map (fun i => (i.zero, i.size, i.bytes)) = some (some (.int .i64 0), 1, 8) := by kernel_rfl
theorem infoStr : (Tryd.prog.info? 9).map (fun i => (i.zero, i.size, i.bytes)) = some (some (.string ⟨#[]⟩), 1, 16) := by kernel_rfl
theorem infoInts : (Tryd.prog.info? 38).map (fun i => (i.zero, i.size, i.bytes)) = some (some (.slice none 0 0), 1, 24) := by kernel_rfl
theorem infoStrs : (Tryd.prog.info? 35).map (fun i => (i.zero, i.size, i.bytes)) = some (some (.slice none 0 0), 1, 24) := by kernel_rfl
theorem infoPiece : (Tryd.prog.info? 57).map (fun i => (i.zero, i.size, i.bytes)) = some (some (.agg #[.int .i64 0, .int .i64 0, .string ⟨#[]⟩, .int .i64 0, .bool false]), 5, 48) := by kernel_rfl
theorem infoLevel : (Tryd.prog.info? 41).map (fun i => (i.zero, i.size, i.bytes)) = some (some (.agg #[.string ⟨#[]⟩, .int .i64 0, .slice none 0 0, .int .i64 0, .int .i64 0]), 5, 64) := by kernel_rfl
theorem infoLabel : (Tryd.prog.info? 87).map (fun i => (i.zero, i.size, i.bytes)) = some (some (.agg #[.string ⟨#[]⟩, .string ⟨#[]⟩]), 2, 32) := by kernel_rfl
theorem infoGroup : (Tryd.prog.info? 43).map (fun i => (i.zero, i.size, i.bytes)) = some (some (.agg #[.int .i64 0, .string ⟨#[]⟩, .int .i64 0, .slice none 0 0]), 4, 56) := by kernel_rfl
end Go.Proofs.YtejmlkfdkodabaaDoor
namespace Go.Proofs.YtejmlkfdkodabaaDoor
open Go.RowKit LB Go.Proofs.YtejmlkfdkodabaaDoorW.PrintWords

theorem mem_shared_size {n : Int} {p : ByteArray} : ∀ {ls : List Label}, (∀ x ∈ ls, (x.pre.size : Int) = n) → p ∈ shared n ls → (p.size : Int) = n
  | y :: r, h, hp => by
    rw [shared] at hp
    have hr : ∀ x ∈ r, (x.pre.size : Int) = n := fun x hx => h x (List.mem_cons_of_mem _ hx)
    rcases List.mem_cons.1 hp with rfl | hp
    · exact h y List.mem_cons_self
    · split at hp
      · rename_i hc
        rcases List.mem_cons.1 hp with rfl | hp
        · simpa using (Bool.and_eq_true_iff.1 hc).1
        · exact mem_shared_size hr hp
      · exact mem_shared_size hr hp
theorem shared_snoc (n : Int) (x : Label) : ∀ ls : List Label, shared n (ls ++ [x]) = shared n ls ++ (x.pre :: (if decide ((x.grp.size : Int) = n) && plainS x.grp then [x.grp] else []))
  | [] => by simp [shared]
  | y :: r => by
    rw [List.cons_append, shared, shared, shared_snoc n x r]
    split <;> simp
theorem shared_next {n : Int} {ls : List Label} {k : Nat} (h : k < ls.length) : shared n (ls.take (k + 1)) = shared n (ls.take k) ++ (ls[k].pre :: (if decide ((ls[k].grp.size : Int) = n) && plainS ls[k].grp then [ls[k].grp] else [])) := by
  rw [List.take_succ_eq_append_getElem h, shared_snoc]
theorem shared_len (n : Int) : ∀ ls : List Label, (shared n ls).length ≤ 2 * ls.length
  | [] => Nat.zero_le _
  | x :: r => by
    have := shared_len n r
    rw [shared]
    split <;> simp <;> omega
/-- All pairs, each the greater place first. -/
def PairsTo (ag : ByteArray → ByteArray → Bool) (l : List ByteArray) (i : Nat) : Prop := ∀ a (ha : a < l.length), a < i → ∀ b (hb : b < a), ag l[a] (l[b]'(by omega)) = true
theorem nested_of_pairs {l next : Level} (h : PairsTo (agree l next) (shared l.pre l.labels) (shared l.pre l.labels).length) : nestedS l next = true := by
  rw [nestedS_iff]
  intro p hp q hq
  obtain ⟨a, ha, rfl⟩ := List.getElem_of_mem hp
  obtain ⟨b, hb, rfl⟩ := List.getElem_of_mem hq
  rcases Nat.lt_trichotomy a b with hab | hab | hab
  · have := (agree_iff _ _ _ _).1 (h b hb hb a hab)
    exact fun e => (this e.symm).symm
  · subst hab
    exact fun _ => rfl
  · exact (agree_iff _ _ _ _).1 (h a ha ha b hab)
theorem nested_bad {l next : Level} {a b : Nat} (ha : a < (shared l.pre l.labels).length) (hb : b < (shared l.pre l.labels).length) (h : agree l next (shared l.pre l.labels)[a] (shared l.pre l.labels)[b] = false) : nestedS l next = false := by
  rw [← Bool.not_eq_true, nestedS_iff]
  intro hh
  have := (agree_iff l next _ _).2 (hh _ (List.getElem_mem ha) _ (List.getElem_mem hb))
  rw [this] at h
  exact Bool.noConfusion h
end Go.Proofs.YtejmlkfdkodabaaDoor
namespace Go.Proofs.YtejmlkfdkodabaaDoor
open Go.RowKit LB Go.Maps Go.Proofs.YtejmlkfdkodabaaDoorW.PrintWords

def keyS (s : ByteArray) : Lit := .string s.data.toList
theorem keyS_inj {a b : ByteArray} (h : keyS a = keyS b) : a = b := by
  unfold keyS at h
  injection h with h
  exact ByteArray.ext (Array.toList_inj.1 h)
theorem keyS_isKey (s : ByteArray) : WideAt.IsKeyLit (keyS s) := trivial
theorem lawS : Keyed Tryd.prog 9 := string_keyed Tryd.underlying9
theorem zeroInt (w : World) : (zeroValue 3).run Tryd.prog w = .ok (.int .i64 0) w := by kernel_rfl
theorem keyOfS {s : ByteArray} (h : s.size ≤ reach) : keyOf Tryd.prog 9 (.string s) = some (.string s.data.toList) := WideMaps.keyOf_string_mk Tryd.underlying9 (by unfold maxLen; unfold reach at h; omega)
theorem ownsMap_below {H : Type} {P : Program} {k : TypeId} {R : Value → Option (DataW H × List MemPlace)} {b n : Nat} {D : DataW H} {w w1 : World} (h : w.ownsMap P k R b n D) (hB : Below w.heap.size w w1) : w1.ownsMap P k R b n D := by
  obtain ⟨es, clock, hb, r⟩ := h
  exact ⟨es, clock, blk_below hb hB, r⟩
theorem map_ne {H : Type} {P : Program} {k : TypeId} {R : Value → Option (DataW H × List MemPlace)} {b n : Nat} {D : DataW H} {w : World} (h : w.ownsMap P k R b n D) {α : Type} {d : Kd α} {e base : Nat} {ok : Nat → Prop} {v : Value} {xs : List α} (hR : d.R e w base ok v xs) : some b ≠ v.ownBlock := by
  intro he
  obtain ⟨es, clock, hb, _⟩ := h
  obtain ⟨cells, hc⟩ := Kd.R_typed hR b he.symm
  rw [hc] at hb
  cases hb
/-- A row of the call's own across a store into a map. -/
theorem R_mapped {H : Type} {P : Program} {k : TypeId} {R : Value → Option (DataW H × List MemPlace)} {b n : Nat} {D : DataW H} {w w1 : World} (h : w.ownsMap P k R b n D) {α : Type} {d : Kd α} {e base : Nat} {ok : Nat → Prop} {v : Value} {xs : List α} (hR : d.R e w base ok v xs) (hg : w.grownBy w1 (some b)) : d.R e w1 base ok v xs := by
  refine Kd.R_mono (Kd.R_grown (Kd.R_bound hR) hg ?_) (fun k hk => hk.1)
  rintro x ⟨_, _, _, q, _, cells, hc⟩ he
  injection he with he
  subst he
  obtain ⟨es, clock, hb, _⟩ := h
  rw [hc] at hb
  cases hb
/-- The map of the first place of each group. -/
structure FirstD (g : ByteArray → ByteArray) (seen : List ByteArray) (D : DataW Unit) : Prop where
  map : IsMap D
  has : ∀ s, Maps.has D (keyS s) = seen.any (fun q => eqS (g q) s)
  at_ : ∀ i (h : i < seen.length), D.atKey (keyS (g seen[i])) (.lit (.int .i64 0)) = .lit (.int .i64 i)
theorem FirstD.start (g : ByteArray → ByteArray) : FirstD g [] (.map []) := ⟨isMap_empty, fun s => rfl, fun i h => absurd h (by simp)⟩
theorem FirstD.push {g : ByteArray → ByteArray} {seen : List ByteArray} {D : DataW Unit} (h : FirstD g seen D) {p : ByteArray} (hn : seen.find? (fun q => eqS (g q) (g p)) = none) : FirstD g (seen ++ [p]) (D.put (keyS (g p)) (.lit (.int .i64 seen.length))) := by
  rw [List.find?_eq_none] at hn
  refine ⟨h.map.put _ _, fun s => ?_, fun i hi => ?_⟩
  · rw [List.any_append]
    by_cases e : g p = s
    · subst e
      rw [has_put_same h.map (keyS_isKey _)]
      simp [eqS_refl]
    · rw [has_put_other (fun e' => e (keyS_inj e').symm), h.has]
      simp [eqS_false.2 e]
  · by_cases e : i < seen.length
    · have hne : g seen[i] ≠ g p := fun e' => hn _ (List.getElem_mem e) (eqS_iff.2 e')
      rw [List.getElem_append_left e, atKey_put_other (fun e' => hne (keyS_inj e')), h.at_ i e]
    · have hie : i = seen.length := by simp at hi; omega
      subst hie
      rw [List.getElem_append_right (Nat.le_refl _)]
      simp only [Nat.sub_self, List.getElem_cons_zero]
      rw [atKey_put_same h.map (keyS_isKey _)]
def stepB (g h : ByteArray → ByteArray) (seen : List ByteArray) (p : ByteArray) : Bool :=
  match seen.find? (fun q => eqS (g q) (g p)) with
  | none => true
  | some q => eqS (h p) (h q)
def stepL (g : ByteArray → ByteArray) (seen : List ByteArray) (p : ByteArray) : List ByteArray :=
  match seen.find? (fun q => eqS (g q) (g p)) with
  | none => seen ++ [p]
  | some _ => seen
theorem fitsAll_step (g h : ByteArray → ByteArray) (seen r : List ByteArray) (p : ByteArray) : fitsAll g h seen (p :: r) = (stepB g h seen p && fitsAll g h (stepL g seen p) r) := by
  rw [fitsAll, stepB, stepL]
  cases seen.find? (fun q => eqS (g q) (g p)) <;> rfl
theorem stepL_mem {g : ByteArray → ByteArray} {seen : List ByteArray} {p q : ByteArray} (h : q ∈ stepL g seen p) : q ∈ seen ∨ q = p := by
  unfold stepL at h
  split at h
  · simpa using h
  · exact .inl h
theorem stepL_len (g : ByteArray → ByteArray) (seen : List ByteArray) (p : ByteArray) : (stepL g seen p).length ≤ seen.length + 1 := by
  unfold stepL
  split <;> simp
theorem groupL_size {ls : List Label} {p : ByteArray} (h : ∀ x ∈ ls, x.Fit) (hp : p.size ≤ reach) : (groupL ls p).size ≤ reach := by
  rcases groupL_cases ls p with ⟨x, hx, _, e⟩ | ⟨_, e⟩
  · rw [e]; exact (h x hx).grp
  · rw [e]; exact hp

structure NInv (l next : Level) (A B : Option Addr) (c d : Nat) (w : World) (seen : List ByteArray) (W : World) : Prop where
  below : Below w.heap.size w W
  bl : W.heap[w.heap.size]? = some (.cells #[.string l.name, .int .i64 l.pre, .slice A l.labels.length c, .int .i64 l.min, .int .i64 l.cents] 41 (0, 0))
  bn : W.heap[w.heap.size + 1]? = some (.cells #[.string next.name, .int .i64 next.pre, .slice B next.labels.length d, .int .i64 next.min, .int .i64 next.cents] 41 (0, 0))
  bf : W.heap[w.heap.size + 3]? = some (.cells #[.map (some (w.heap.size + 2))] 88 (0, 0))
  rest : ∃ v D, W.heap[w.heap.size + 4]? = some (.cells #[v] 35 (0, 0)) ∧ Kd.R Kd.string 9 W w.heap.size (fun _ => True) v seen ∧ W.ownsMap Tryd.prog 9 (plainElem (H := Unit) Tryd.prog 3) (w.heap.size + 2) seen.length D ∧ FirstD (groupL l.labels) seen D
theorem NInv.next {l next : Level} {A B : Option Addr} {c d : Nat} {w : World} {seen : List ByteArray} {W W' : World} (h : NInv l next A B c d w seen W) (hB : Below W.heap.size W W') : NInv l next A B c d w seen W' := by
  obtain ⟨v, D, h1, h2, h3, h4⟩ := h.rest
  exact ⟨below_then h.below h.below.size hB, blk_below h.bl hB, blk_below h.bn hB, blk_below h.bf hB, v, D, blk_below h1 hB, Kd.R_below h2 hB, ownsMap_below h3 hB, h4⟩
theorem FirstD.get {g : ByteArray → ByteArray} {seen : List ByteArray} {D : DataW Unit} (h : FirstD g seen D) {p q : ByteArray} (hf : seen.find? (fun q => eqS (g q) (g p)) = some q) : ∃ i, ∃ hi : i < seen.length, seen[i] = q ∧ D.atKey (keyS (g p)) (.lit (.int .i64 0)) = .lit (.int .i64 i) := by
  obtain ⟨i, hi, e⟩ := List.getElem_of_mem (List.mem_of_find?_eq_some hf)
  have he : g q = g p := eqS_iff.1 (List.find?_some (p := fun q => eqS (g q) (g p)) hf)
  refine ⟨i, hi, e, ?_⟩
  rw [← he, ← e]
  exact h.at_ i hi
/-- What else there was is as it was. -/
def Keeps (b : Nat) (W W' : World) : Prop := ∀ g cs T, W.heap[g]? = some (.cells cs T (0, 0)) → g ≠ b → T ≠ 9 → W'.heap[g]? = some (.cells cs T (0, 0))
theorem keeps_below {b : Nat} {W W1 : World} (hB : Below W.heap.size W W1) : Keeps b W W1 := fun _ _ _ h _ _ => blk_below h hB
theorem Keeps.trans {b : Nat} {W W1 W2 : World} (h : Keeps b W W1) (h' : Keeps b W1 W2) : Keeps b W W2 := fun g cs T hg hb hT => h' g cs T (h g cs T hg hb hT) hb hT
theorem keeps_map {H : Type} {P : Program} {k : TypeId} {R : Value → Option (DataW H × List MemPlace)} {b b' n : Nat} {D : DataW H} {w w1 : World} (h : w.ownsMap P k R b n D) (hg : w.grownBy w1 (some b)) : Keeps b' w w1 := by
  intro g cs T hx _ _
  refine blk_grown hx hg ?_
  intro he
  injection he with he
  subst he
  obtain ⟨es, clock, hb, _⟩ := h
  rw [hx] at hb
  cases hb
theorem keeps_grown {base b : Nat} {ok : Nat → Prop} {v : Value} {xs : List ByteArray} {w w1 : World} (hR : Kd.R Kd.string 9 w base ok v xs) (hg : w.grownBy w1 v.ownBlock) : Keeps b w w1 := fun _ _ _ hx _ hT => blk_grown hx hg (Kd.R_ne hR hx (Ne.symm hT))
theorem keeps_set {b : Nat} (w : World) (u : Value) : Keeps b w (w.setCell ⟨b, 0, none⟩ u) := fun _ _ _ hx hb _ => blk_far hx hb u
set_option maxHeartbeats 2000000 in
set_option maxRecDepth 100000 in
theorem fits_new (l next : Level) (A B : Option Addr) (c d : Nat) (w W : World) (seen : List ByteArray) (p : ByteArray) (hC : Kd.C kLabel w A l.labels.length l.labels) (hf : l.Fit) (ha : ascending l.labels = true)
    (HI : NInv l next A B c d w seen W) (hp : p.size ≤ reach) (hl : seen.length ≤ 4000000) (hn : seen.find? (fun q => eqS (groupL l.labels q) (groupL l.labels p)) = none) :
    Calls Tryd.prog 61 #[.string p, .pointer (some ⟨w.heap.size, 0, none⟩), .pointer (some ⟨w.heap.size + 3, 0, none⟩), .pointer (some ⟨w.heap.size + 4, 0, none⟩), .pointer (some ⟨w.heap.size + 1, 0, none⟩)] W
      fun e W' => e = .returned (.bool true) ∧ NInv l next A B c d w (seen ++ [p]) W' ∧ Keeps (w.heap.size + 4) W W' := by
  have hm : l.labels.length ≤ 1000000 := hf.many
  have hkey := keyOfS (groupL_size hf.each hp)
  have hnn : seen.any (fun q => eqS (groupL l.labels q) (groupL l.labels p)) = false := by
    rw [List.any_eq_false]
    rw [List.find?_eq_none] at hn
    exact hn
  have HI := hid_ HI
  have HC := hid_ hC
  have HA := hid_ ha
  have HN := hid_ hn
  have HNN := hid_ hnn
  have HK := hid_ hkey
  clear hC ha hn hnn hkey hf
  have b0 := boxAt HI.out.bl 0 rfl
  have b1 := boxAt HI.out.bl 1 rfl
  have b2 := boxAt HI.out.bl 2 rfl
  have b3 := boxAt HI.out.bl 3 rfl
  have b4 := boxAt HI.out.bl 4 rfl
  have HG := hid_ (fun s => sgroup_any l A c s W (Kd.C_below HC.out HI.out.below) hm HA.out)
  go_enter Tryd.func61, Tryd.ntmps61
  go_wp2_with (first
    | (go_at_call 32; refine (HG.out _).mono ?_; rintro e W1 ⟨rfl, hB1⟩; have I1 := hid_ (HI.out.next hB1); obtain ⟨v, D, hv, hR, hM, hF⟩ := I1.out.rest; obtain ⟨AA, cc, rfl, hcc, hCC⟩ := Kd.R_reads hR; have HR := hid_ hR; have cf := boxAt I1.out.bf 0 rfl; have ca := boxAt hv 0 rfl; have hhas : Maps.has D (.string (groupL l.labels p).data.toList) = false := (hF.has _).trans HNN.out; have HM := hid_ hM; have HFi := hid_ hF; have HV := hid_ hv; have K1 := hid_ (keeps_below (b := w.heap.size + 4) hB1); clear hR hM hF hCC hB1 hv)
    | (at_lookup; refine wpList_lookup_own_ok_int _ rfl _ _ 88 rfl 9 3 .i64 lawS Tryd.underlying88 Tryd.underlying3 (zeroInt _) _ _ _ rfl HM.out _ _ rfl HK.out ?_; intro c0 hat hwc; clear hat)
    | (at_mapUpdate; refine wpList_mapUpdate_own _ rfl _ _ _ 88 rfl 9 3 lawS Tryd.underlying88 _ _ _ _ rfl HM.out (by unfold maxLen; omega) _ _ _ rfl rfl HK.out _ [] (plainElem_int Tryd.underlying3 (WalkArith.wf_i64 (by omega))) ?_; intro w1 hm1 hg1
       have HM1 := hid_ hm1; have HR1 := hid_ (R_mapped HM.out HR.out hg1); have K2 := hid_ (K1.out.trans (keeps_map HM.out hg1)); have x1 := blk_grown I1.out.bl hg1 (by simp); have x2 := blk_grown I1.out.bn hg1 (by simp); have x3 := blk_grown I1.out.bf hg1 (by simp); have x4 := blk_grown HV.out hg1 (by simp); have ca1 := boxAt x4 0 rfl; have HB1 := hid_ (I1.out.below.grown hg1 I1.out.below.size (fun k hk => by injection hk with hk; omega)); have z1 := HB1.out.size; have X1 := hid_ x1; have X2 := hid_ x2; have X3 := hid_ x3; have X4 := hid_ x4; clear hm1 hg1 x1 x2 x3 x4)
    | (at_builtin; refine Kd.R_append Kd.string (w0 := w) w.heap.size rfl (.tmp 25) (.tmp 27) 35 9 (.string ⟨#[]⟩) 16 rfl Tryd.underlying35 infoStr rfl (by decide) (by omega) _ _ p [.string p] (fun _ => True) (fun _ => False) rfl rfl rfl (fun _ hk => hk.elim) (fun _ _ => trivial) HR1.out HB1.out (by omega) (by omega) ?_; intro v1 w2 ho2 hb2 hg2 hat2; obtain ⟨A1, c1, rfl, _, _⟩ := Kd.R_reads ho2; simp only [List.length_append, List.length_singleton] at ho2; have y4 := blk_grown X4.out hg2 (Kd.R_ne HR1.out X4.out (by decide)); have ca2 := boxAt y4 0 rfl; have fa2 := blk_frozen y4 0; have HO2 := hid_ ho2; have HB2 := hid_ hb2; have HG2 := hid_ hg2; have K3 := hid_ (K2.out.trans (keeps_grown HR1.out hg2)); have Y4 := hid_ y4; clear ho2 hb2 hg2 hat2 y4))
  go_ret
  refine ⟨rfl, ⟨below_set HB2.out (by omega), ?_, ?_, ?_, _, _, blk_put Y4.out 0 _ rfl, Kd.R_set HO2.out Y4.out (by decide) 0 _, ?_, HFi.out.push HN.out⟩, K3.out.trans (keeps_set _ _)⟩
  · exact blk_far (blk_grown X1.out HG2.out (Kd.R_ne HR1.out X1.out (by decide))) (by simp) _
  · exact blk_far (blk_grown X2.out HG2.out (Kd.R_ne HR1.out X2.out (by decide))) (by simp) _
  · exact blk_far (blk_grown X3.out HG2.out (Kd.R_ne HR1.out X3.out (by decide))) (by simp) _
  · have := (HM1.out.kept HG2.out (map_ne HM1.out HR1.out)).setCell (a := ⟨w.heap.size + 4, 0, none⟩) (by simp) (.slice A1 (seen.length + 1) c1)
    rw [List.length_append]
    exact this
set_option maxHeartbeats 2000000 in
set_option maxRecDepth 100000 in
theorem fits_met (l next : Level) (A B : Option Addr) (c d : Nat) (w W : World) (seen : List ByteArray) (p q : ByteArray) (hC : Kd.C kLabel w A l.labels.length l.labels) (hD : Kd.C kLabel w B next.labels.length next.labels) (hf : l.Fit) (hfn : next.labels.length ≤ 1000000) (ha : ascending l.labels = true) (han : ascending next.labels = true)
    (HI : NInv l next A B c d w seen W) (hp : p.size ≤ reach) (hq : seen.find? (fun q => eqS (groupL l.labels q) (groupL l.labels p)) = some q) (h0 : 0 ≤ next.pre) (h1 : next.pre ≤ p.size) (h2 : next.pre ≤ q.size) :
    Calls Tryd.prog 61 #[.string p, .pointer (some ⟨w.heap.size, 0, none⟩), .pointer (some ⟨w.heap.size + 3, 0, none⟩), .pointer (some ⟨w.heap.size + 4, 0, none⟩), .pointer (some ⟨w.heap.size + 1, 0, none⟩)] W
      fun e W' => e = .returned (.bool (eqS (groupL next.labels (takeS p next.pre)) (groupL next.labels (takeS q next.pre)))) ∧ NInv l next A B c d w seen W' ∧ Keeps (w.heap.size + 4) W W' := by
  have hm : l.labels.length ≤ 1000000 := hf.many
  have hkey := keyOfS (groupL_size hf.each hp)
  have hnn : seen.any (fun q => eqS (groupL l.labels q) (groupL l.labels p)) = true := by
    rw [List.any_eq_true]
    exact ⟨q, List.mem_of_find?_eq_some hq, List.find?_some (p := fun q => eqS (groupL l.labels q) (groupL l.labels p)) hq⟩
  have HI := hid_ HI
  have HC := hid_ hC
  have HD := hid_ hD
  have HA := hid_ ha
  have HAN := hid_ han
  have HQ := hid_ hq
  have HNN := hid_ hnn
  have HK := hid_ hkey
  clear hC hD ha han hq hnn hkey hf
  have b0 := boxAt HI.out.bl 0 rfl
  have b1 := boxAt HI.out.bl 1 rfl
  have b2 := boxAt HI.out.bl 2 rfl
  have b3 := boxAt HI.out.bl 3 rfl
  have b4 := boxAt HI.out.bl 4 rfl
  have HG := hid_ (fun s => sgroup_any l A c s W (Kd.C_below HC.out HI.out.below) hm HA.out)
  have HGN := hid_ (fun (W1 : World) (hB : Below w.heap.size w W1) s => sgroup_any next B d s W1 (Kd.C_below HD.out hB) hfn HAN.out)
  have HR : Hid (eqS (groupL next.labels (takeS p next.pre)) (groupL next.labels (takeS q next.pre)) = ((groupL next.labels (p.extract 0 next.pre.toNat)).toList == (groupL next.labels (q.extract 0 next.pre.toNat)).toList)) := rfl
  go_enter Tryd.func61, Tryd.ntmps61
  go_wp2_with (first
    | (go_at_call 32; refine (HG.out _).mono ?_; rintro e W1 ⟨rfl, hB1⟩; have I1 := hid_ (HI.out.next hB1); obtain ⟨v, D, hv, hR, hM, hF⟩ := I1.out.rest; obtain ⟨AA, cc, rfl, hcc, hCC⟩ := Kd.R_reads hR; obtain ⟨i, hi, rfl, hat0⟩ := hF.get HQ.out; obtain ⟨g, o, rfl, hg, _, cq⟩ := atStr hCC (Below.refl _ _) i hi; have cf := boxAt I1.out.bf 0 rfl; have ca := boxAt hv 0 rfl; have hhas : Maps.has D (.string (groupL l.labels p).data.toList) = true := (hF.has _).trans HNN.out; have HAT := hid_ hat0; have HM := hid_ hM; have x0 := boxAt I1.out.bn 0 rfl; have x1 := boxAt I1.out.bn 1 rfl; have x2 := boxAt I1.out.bn 2 rfl; have x3 := boxAt I1.out.bn 3 rfl; have x4 := boxAt I1.out.bn 4 rfl; have X0 := laterCell x0; have X1 := laterCell x1; have X2 := laterCell x2; have X3 := laterCell x3; have X4 := laterCell x4; have CA := laterCell ca; have CQ := laterCell cq; have K1 := hid_ (keeps_below (b := w.heap.size + 4) hB1); clear hR hM hF hCC hB1 hv hat0 x0 x1 x2 x3 x4 ca cq)
    | (at_lookup; refine wpList_lookup_own_ok_int _ rfl _ _ 88 rfl 9 3 .i64 lawS Tryd.underlying88 Tryd.underlying3 (zeroInt _) _ _ _ rfl HM.out _ _ rfl HK.out ?_; intro c0 hat hwc; obtain rfl : (i : Int) = c0 := (by have := HAT.out.symm.trans hat; injection this with this; injection this)))
  refine wp_region_later (by kernel_rfl) (by kernel_rfl) ?_
  repeat (go_big_quiet_step ((go_at_call 32; exact later_of (HGN.out _ (below_then I1.out.below I1.out.below.size (Later.below _)) _))))
  refine wpQuiet_nil ?_
  rintro _ ⟨⟨W', hW⟩, rfl⟩
  go_wp2
  go_ret
  exact ⟨ret_bool HR.out.symm, I1.out.next hW, K1.out.trans (keeps_below hW)⟩
/-- One prefix. -/
theorem fits_any (l next : Level) (A B : Option Addr) (c d : Nat) (w : World) (hC : Kd.C kLabel w A l.labels.length l.labels) (hD : Kd.C kLabel w B next.labels.length next.labels) (hf : l.Fit) (hfn : next.labels.length ≤ 1000000) (ha : ascending l.labels = true) (han : ascending next.labels = true) (h0 : 0 ≤ next.pre) (h1 : next.pre ≤ l.pre)
    (W : World) (seen : List ByteArray) (p : ByteArray) (HI : NInv l next A B c d w seen W) (hp : (p.size : Int) = l.pre) (hp' : p.size ≤ reach) (hs : ∀ q ∈ seen, (q.size : Int) = l.pre) (hl : seen.length ≤ 4000000) :
    Calls Tryd.prog 61 #[.string p, .pointer (some ⟨w.heap.size, 0, none⟩), .pointer (some ⟨w.heap.size + 3, 0, none⟩), .pointer (some ⟨w.heap.size + 4, 0, none⟩), .pointer (some ⟨w.heap.size + 1, 0, none⟩)] W
      fun e W' => e = .returned (.bool (stepB (groupL l.labels) (fun s => groupL next.labels (takeS s next.pre)) seen p)) ∧ NInv l next A B c d w (stepL (groupL l.labels) seen p) W' ∧ Keeps (w.heap.size + 4) W W' := by
  unfold stepB stepL
  cases hq : seen.find? (fun q => eqS (groupL l.labels q) (groupL l.labels p)) with
  | none => exact fits_new l next A B c d w W seen p hC hf ha HI hp' hl hq
  | some q => exact fits_met l next A B c d w W seen p q hC hD hf hfn ha han HI hp' hq h0 (by omega) (by have := hs q (List.mem_of_find?_eq_some hq); omega)
theorem shared_drop {n : Int} {ls : List Label} {k : Nat} (h : k < ls.length) : shared n (ls.drop k) = ls[k].pre :: (if decide ((ls[k].grp.size : Int) = n) && plainS ls[k].grp then ls[k].grp :: shared n (ls.drop (k + 1)) else shared n (ls.drop (k + 1))) := by
  rw [List.drop_eq_getElem_cons h, shared]
set_option maxHeartbeats 4000000 in
set_option maxRecDepth 100000 in
theorem snested_any (l next : Level) (A B : Option Addr) (c d : Nat) (w : World) (hC : Kd.C kLabel w A l.labels.length l.labels) (hD : Kd.C kLabel w B next.labels.length next.labels) (hf : l.Fit) (hfn : next.labels.length ≤ 1000000) (ha : ascending l.labels = true) (han : ascending next.labels = true) (h0 : 0 ≤ next.pre) (h1 : next.pre ≤ l.pre)
    (hsz : ∀ x ∈ l.labels, (x.pre.size : Int) = l.pre) :
    Calls Tryd.prog 42 #[.agg #[.string l.name, .int .i64 l.pre, .slice A l.labels.length c, .int .i64 l.min, .int .i64 l.cents], .agg #[.string next.name, .int .i64 next.pre, .slice B next.labels.length d, .int .i64 next.min, .int .i64 next.cents]] w
      fun e w' => e = .returned (.bool (nestedS l next)) ∧ Below w.heap.size w w' := by
  have hm : l.labels.length ≤ 1000000 := hf.many
  have HF := hid_ (fits_any l next A B c d w hC hD hf hfn ha han h0 h1)
  have HE := hid_ hf.each
  have HSZ := hid_ hsz
  have HC := hid_ hC
  have HNF := hid_ (nested_fits l next)
  clear hC hD hf ha han hsz
  generalize hgg : groupL l.labels = G at HF HNF
  generalize hhh : (fun s => groupL next.labels (takeS s next.pre)) = H at HF HNF
  have HGG := hid_ hgg
  have hmm := @run_makeMap Tryd.prog
  clear hgg hhh
  go_enter Tryd.func42, Tryd.ntmps42
  go_wp2
  go_loopw [15] (fun i wr => ∃ k : Nat, k ≤ l.labels.length ∧ i = .int .i64 k ∧ ∃ seen : List ByteArray, seen.length ≤ 2 * k ∧ Hid (∀ q ∈ seen, (q.size : Int) = l.pre) ∧ Hid (NInv l next A B c d w seen wr) ∧ Hid (nestedS l next = fitsAll G H seen (shared l.pre (l.labels.drop k))))
    (fun i _ => l.labels.length - (intOf i).toNat)
  case atStart =>
    refine ⟨0, Nat.zero_le _, rfl, [], Nat.zero_le _, fun q h => (by cases h), ?_, HNF.out.symm⟩
    refine ⟨((((((Below.refl _ _).alloc (Nat.le_refl _) _).alloc (by simp) _).alloc (by simp; omega) _).alloc (by simp; omega) _).alloc (by simp; omega) _), ?_, ?_, ?_, _, .map [], ?_, Kd.R_nil _ _ _ _ _, ?_, FirstD.start _⟩
    · exact blk_alloc (blk_alloc (blk_alloc (blk_alloc (blk_new _ _) _) _) _) _
    · refine blk_alloc (blk_alloc (blk_alloc ?_ _) _) _
      exact blk_new2 _ _ _
    · refine blk_alloc ?_ _
      have h := blk_new (((w.alloc (.cells #[.string l.name, .int .i64 l.pre, .slice A l.labels.length c, .int .i64 l.min, .int .i64 l.cents] 41)).alloc (.cells #[.string next.name, .int .i64 next.pre, .slice B next.labels.length d, .int .i64 next.min, .int .i64 next.cents] 41)).alloc (.map #[] 0)) (.cells #[.map (some (w.heap.size + 1 + 1))] 88)
      simpa using h
    · have h := blk_new ((((w.alloc (.cells #[.string l.name, .int .i64 l.pre, .slice A l.labels.length c, .int .i64 l.min, .int .i64 l.cents] 41)).alloc (.cells #[.string next.name, .int .i64 next.pre, .slice B next.labels.length d, .int .i64 next.min, .int .i64 next.cents] 41)).alloc (.map #[] 0)).alloc (.cells #[.map (some (w.heap.size + 1 + 1))] 88)) (.cells #[.slice none 0 0] 35)
      simpa using h
    · refine (World.ownsMap.alloc (World.ownsMap.alloc ?_ _) _)
      have h := World.ownsMap_made (H := Unit) ((w.alloc (.cells #[.string l.name, .int .i64 l.pre, .slice A l.labels.length c, .int .i64 l.min, .int .i64 l.cents] 41)).alloc (.cells #[.string next.name, .int .i64 next.pre, .slice B next.labels.length d, .int .i64 next.min, .int .i64 next.cents] 41)) Tryd.prog 9 (plainElem Tryd.prog 3)
      simpa using h
  case round =>
    obtain ⟨k, hk, rfl, seen, hsl, hss, HI, HT⟩ := hrel
    by_cases hlt : k < l.labels.length
    · obtain ⟨g, o, rfl, hg, hg', c0, c1⟩ := atLabel HC.out HI.out.below k hlt
      have hp1 : l.labels[k].pre.size ≤ reach := (HE.out _ (List.getElem_mem hlt)).pre
      have hp2 : l.labels[k].grp.size ≤ reach := (HE.out _ (List.getElem_mem hlt)).grp
      have hp3 : l.labels[k].grp.size ≤ 9223372036854775807 := by unfold reach at hp2; omega
      have HP1 := hid_ (HSZ.out _ (List.getElem_mem hlt))
      have HT2 := hid_ (HT.out.trans (by rw [shared_drop hlt, fitsAll_step]))
      have HW := hid_ (HI.out.next ((Below.refl wr.heap.size wr).alloc (Nat.le_refl _) (.cells #[.string l.labels[k].pre, .string l.labels[k].grp] 87)))
      have HF1 := hid_ (HF.out _ seen l.labels[k].pre HW.out HP1.out hp1 hss.out (by omega))
      have HL := hid_ (blk_new wr (.cells #[.string l.labels[k].pre, .string l.labels[k].grp] 87))
      have e0 := boxAt HL.out 0 rfl
      have e1 := boxAt HL.out 1 rfl
      have hsl2 := stepL_len G seen l.labels[k].pre
      have HSS : Hid (∀ q ∈ stepL G seen l.labels[k].pre, (q.size : Int) = l.pre) := fun q hq => by
        rcases stepL_mem hq with h | rfl
        · exact hss.out q h
        · exact HP1.out
      have hne : wr.heap.size ≠ w.heap.size + 4 := by
        obtain ⟨_, _, hbx, _⟩ := HI.out.rest
        have := blk_lt hbx
        omega
      cases q1 : stepB G H seen l.labels[k].pre
      · have HV : Hid (nestedS l next = false) := by rw [Hid, HT2.out, q1]; rfl
        rw [q1] at HF1
        clear q1 HT2
        go_wp2_with (go_at_call 61; refine (HF1.out).mono ?_; rintro e W1 ⟨rfl, hI1, hK1⟩; have I1 := hid_ hI1; have xl := hK1 _ _ _ HL.out hne (by decide); have f0 := boxAt xl 0 rfl; have f1 := boxAt xl 1 rfl; have f2 := boxAt hI1.bl 1 rfl; have XL := hid_ xl; clear hI1 hK1 xl)
        go_ret
        exact ⟨ret_bool HV.out.symm, I1.out.below⟩
      · rw [q1] at HF1
        by_cases q2 : (l.labels[k].grp.size : Int) = l.pre
        · have d2 : ((l.labels[k].grp.size : Int) == l.pre) = true := by simpa using q2
          have Q2 := hid_ q2
          cases q3 : plainS l.labels[k].grp
          · have HV : Hid (nestedS l next = fitsAll G H (stepL G seen l.labels[k].pre) (shared l.pre (l.labels.drop (k + 1)))) := by rw [Hid, HT2.out, q1, q3, Bool.and_false]; rfl
            clear q1 HT2 q2
            go_wp2_with (first | (go_at_call 61; refine (HF1.out).mono ?_; rintro e W1 ⟨rfl, hI1, hK1⟩; have I1 := hid_ hI1; have xl := hK1 _ _ _ HL.out hne (by decide); have f0 := boxAt xl 0 rfl; have f1 := boxAt xl 1 rfl; have f2 := boxAt hI1.bl 1 rfl; have XL := hid_ xl; clear hI1 hK1 xl) | (go_at_call 44; refine (splain_any _ _ hp3).mono ?_; rintro e W2 ⟨rfl, hB2⟩; have I2 := hid_ (I1.out.next hB2); have xl2 := blk_below XL.out hB2; have k0 := boxAt xl2 0 rfl; have k1 := boxAt xl2 1 rfl; have HF2 := hid_ (HF.out W2 _ l.labels[k].grp I2.out Q2.out hp2 HSS.out (by omega)); clear hB2 xl2))
            go_roundw
            case rel => exact ⟨k + 1, by omega, by go_num, _, by omega, HSS.out, I2.out, HV.out⟩
            case measure => simp [intOf]; omega
          · have HV := hid_ (HT2.out.trans (by rw [q1, q3, decide_eq_true q2, Bool.true_and, Bool.true_and, if_pos rfl, fitsAll_step]))
            have hsl3 := stepL_len G (stepL G seen l.labels[k].pre) l.labels[k].grp
            cases q4 : stepB G H (stepL G seen l.labels[k].pre) l.labels[k].grp
            · have HY : Hid (nestedS l next = false) := by rw [Hid, HV.out, q4]; rfl
              have Q4 := hid_ q4
              clear q1 HT2 q2 HV q4
              go_wp2_with (first | (go_at_call 61; refine (HF2.out).mono ?_; rintro e W3 ⟨he, hI3, hK3⟩; rw [Q4.out] at he; subst he; have I3 := hid_ hI3; clear hI3 hK3) | (go_at_call 61; refine (HF1.out).mono ?_; rintro e W1 ⟨rfl, hI1, hK1⟩; have I1 := hid_ hI1; have xl := hK1 _ _ _ HL.out hne (by decide); have f0 := boxAt xl 0 rfl; have f1 := boxAt xl 1 rfl; have f2 := boxAt hI1.bl 1 rfl; have XL := hid_ xl; clear hI1 hK1 xl) | (go_at_call 44; refine (splain_any _ _ hp3).mono ?_; rintro e W2 ⟨rfl, hB2⟩; have I2 := hid_ (I1.out.next hB2); have xl2 := blk_below XL.out hB2; have k0 := boxAt xl2 0 rfl; have k1 := boxAt xl2 1 rfl; have HF2 := hid_ (HF.out W2 _ l.labels[k].grp I2.out Q2.out hp2 HSS.out (by omega)); clear hB2 xl2))
              go_ret
              exact ⟨ret_bool HY.out.symm, I3.out.below⟩
            · have HY : Hid (nestedS l next = fitsAll G H (stepL G (stepL G seen l.labels[k].pre) l.labels[k].grp) (shared l.pre (l.labels.drop (k + 1)))) := by rw [Hid, HV.out, q4]; rfl
              have Q4 := hid_ q4
              clear q1 HT2 q2 HV q4
              go_wp2_with (first | (go_at_call 61; refine (HF2.out).mono ?_; rintro e W3 ⟨he, hI3, hK3⟩; rw [Q4.out] at he; subst he; have I3 := hid_ hI3; clear hI3 hK3) | (go_at_call 61; refine (HF1.out).mono ?_; rintro e W1 ⟨rfl, hI1, hK1⟩; have I1 := hid_ hI1; have xl := hK1 _ _ _ HL.out hne (by decide); have f0 := boxAt xl 0 rfl; have f1 := boxAt xl 1 rfl; have f2 := boxAt hI1.bl 1 rfl; have XL := hid_ xl; clear hI1 hK1 xl) | (go_at_call 44; refine (splain_any _ _ hp3).mono ?_; rintro e W2 ⟨rfl, hB2⟩; have I2 := hid_ (I1.out.next hB2); have xl2 := blk_below XL.out hB2; have k0 := boxAt xl2 0 rfl; have k1 := boxAt xl2 1 rfl; have HF2 := hid_ (HF.out W2 _ l.labels[k].grp I2.out Q2.out hp2 HSS.out (by omega)); clear hB2 xl2))
              go_roundw
              case rel =>
                refine ⟨k + 1, by omega, by go_num, _, by omega, fun q hq => ?_, I3.out, HY.out⟩
                rcases stepL_mem hq with h | rfl
                · exact HSS.out q h
                · exact Q2.out
              case measure => simp [intOf]; omega
        · have d2 : ((l.labels[k].grp.size : Int) == l.pre) = false := by simpa using q2
          have HV : Hid (nestedS l next = fitsAll G H (stepL G seen l.labels[k].pre) (shared l.pre (l.labels.drop (k + 1)))) := by rw [Hid, HT2.out, q1, decide_eq_false q2, Bool.false_and]; rfl
          clear q1 q2 HT2
          go_wp2_with (go_at_call 61; refine (HF1.out).mono ?_; rintro e W1 ⟨rfl, hI1, hK1⟩; have I1 := hid_ hI1; have xl := hK1 _ _ _ HL.out hne (by decide); have f0 := boxAt xl 0 rfl; have f1 := boxAt xl 1 rfl; have f2 := boxAt hI1.bl 1 rfl; have XL := hid_ xl; clear hI1 hK1 xl)
          go_roundw
          case rel => exact ⟨k + 1, by omega, by go_num, _, by omega, HSS.out, I1.out, HV.out⟩
          case measure => simp [intOf]; omega
    · have HV : Hid (nestedS l next = true) := by rw [Hid, HT.out, show k = l.labels.length from by omega, List.drop_length]; rfl
      have HB := hid_ HI.out.below
      go_wp2
      go_ret
      exact ⟨ret_bool HV.out.symm, HB.out⟩
end Go.Proofs.YtejmlkfdkodabaaDoor
namespace Go.Proofs.YtejmlkfdkodabaaDoor
open Go.RowKit LB Go.Proofs.YtejmlkfdkodabaaDoorW.PrintWords

structure LFit (ls : List Level) : Prop where
  many : ls.length ≤ 1000000
  each : ∀ l ∈ ls, l.Fit
end Go.Proofs.YtejmlkfdkodabaaDoor
