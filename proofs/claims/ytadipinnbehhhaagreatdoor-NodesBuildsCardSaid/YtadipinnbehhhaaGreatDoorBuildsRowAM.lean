/- Levels, what may point where; by the program and by the reference. Nodes: put together, compared, told from other records; by the program and by the reference. Builders as states. A builder: Done. -/
import Derived.Deep.RegionHeld3
import Derived.Test.YtadipinnbehhhaaGreatDoorBuildsRowAL
import Derived.Test.YtadipinnbehhhaaGreatDoorBuildsRowAG
namespace Go.Proofs.YtadipinnbehhhaaGreatDoor
open Go.RowKit

theorem split_t (p : Nat) (hp : p < 18446744073709551616) (w : World) :
    Calls Tryz.prog 100 #[.int .u64 p] w fun e w' => e = .returned (.tuple #[.int .i64 (sL p), .int .i64 (sI p), .bool (sF p), .bool (sV p), .bool (sK p)]) ∧ w' = w := split_any p hp w
theorem rsplit_t (p : Nat) (hp : p < 18446744073709551616) (w : World) :
    Calls Tryz.prog 82 #[.int .u64 p] w fun e w' => e = .returned (.tuple #[.int .i64 (sL p), .int .i64 (sI p), .bool (sF p), .bool (sV p), .bool (sK p)]) ∧ w' = w := rsplit_any p hp w

/-- A pointer's level; 65536 of a leaf; -1 of what is none. -/
def pLv (p : Nat) : Int := if sK p = true then (if sF p = true then 65536 else sL p) else -1

set_option maxHeartbeats 1000000 in
theorem level_any (p : Nat) (hp : p < 18446744073709551616) (w : World) :
    Calls Tryz.prog 95 #[.int .u64 p] w fun e w' => e = .returned (.int .i64 (pLv p)) ∧ w' = w := by
  have HP := Hid.intro_ hp
  clear hp
  cases hk : sK p
  · have e : pLv p = -1 := by unfold pLv; rw [if_neg (by simp [hk])]
    rw [e]
    go_enter Tryz.func95, Tryz.ntmps95
    go_wp2_with (go_at_call 100; refine (split_t p HP.out _).mono ?_; rintro e w' ⟨rfl, rfl⟩)
    go_ret
    exact ⟨rfl, rfl⟩
  cases hf : sF p
  · have e : pLv p = sL p := by unfold pLv; rw [if_pos hk, if_neg (by simp [hf])]
    rw [e]
    go_enter Tryz.func95, Tryz.ntmps95
    go_wp2_with (go_at_call 100; refine (split_t p HP.out _).mono ?_; rintro e w' ⟨rfl, rfl⟩)
    go_ret
    exact ⟨rfl, rfl⟩
  · have e : pLv p = 65536 := by unfold pLv; rw [if_pos hk, if_pos hf]
    rw [e]
    go_enter Tryz.func95, Tryz.ntmps95
    go_wp2_with (go_at_call 100; refine (split_t p HP.out _).mono ?_; rintro e w' ⟨rfl, rfl⟩)
    go_ret
    exact ⟨rfl, rfl⟩

/-- May a node of that level, over so many levels, point there? -/
def uN (p : Nat) (l n : Int) : Bool := decide (pLv p = 65536) || (decide (l < pLv p) && decide (pLv p < n))

set_option maxHeartbeats 1000000 in
theorem under_any (p : Nat) (l n : Int) (hp : p < 18446744073709551616) (w : World) :
    Calls Tryz.prog 137 #[.int .u64 p, .int .i64 l, .int .i64 n] w fun e w' => e = .returned (.bool (uN p l n)) ∧ w' = w := by
  have HP := Hid.intro_ hp
  clear hp
  unfold uN
  generalize hq : pLv p = q
  have HQ := Hid.intro_ hq
  clear hq
  by_cases h1 : q = 65536
  · have e1 : (q == 65536) = true := by simpa using h1
    rw [decide_eq_true h1, Bool.true_or]
    clear h1
    go_enter Tryz.func137, Tryz.ntmps137
    go_wp2_with (go_at_call 95; refine (level_any p HP.out _).mono ?_; rw [HQ.out]; rintro e w' ⟨rfl, rfl⟩)
    go_ret
    exact ⟨rfl, rfl⟩
  have e1 : (q == 65536) = false := by simpa using h1
  rw [decide_eq_false h1, Bool.false_or]
  clear h1
  by_cases h2 : l < q
  · rw [decide_eq_true h2, Bool.true_and]
    go_enter Tryz.func137, Tryz.ntmps137
    go_wp2_with (go_at_call 95; refine (level_any p HP.out _).mono ?_; rw [HQ.out]; rintro e w' ⟨rfl, rfl⟩)
    go_ret
    exact ⟨rfl, rfl⟩
  · rw [decide_eq_false h2, Bool.false_and]
    have h2' : decide (l < q) = false := decide_eq_false h2
    clear h2
    go_enter Tryz.func137, Tryz.ntmps137
    go_wp2_with (go_at_call 95; refine (level_any p HP.out _).mono ?_; rw [HQ.out]; rintro e w' ⟨rfl, rfl⟩)
    go_ret
    exact ⟨rfl, rfl⟩

/-- Is it a pointer to a node of a level below n? -/
def nOk (p : Nat) (n : Int) : Bool := sK p && !sF p && decide (sL p < n)

set_option maxHeartbeats 1000000 in
theorem node_any (p : Nat) (n : Int) (hp : p < 18446744073709551616) (w : World) :
    Calls Tryz.prog 153 #[.int .u64 p, .int .i64 n] w fun e w' => e = .returned (.tuple #[.int .i64 (if nOk p n = true then sL p else 0), .int .i64 (if nOk p n = true then sI p else 0), .bool (nOk p n)]) ∧ w' = w := by
  have HP := Hid.intro_ hp
  clear hp
  cases hk : sK p
  · have e : nOk p n = false := by simp [nOk, hk]
    rw [e]
    go_enter Tryz.func153, Tryz.ntmps153
    go_wp2_with (go_at_call 82; refine (rsplit_t p HP.out _).mono ?_; rintro e w' ⟨rfl, rfl⟩)
    go_ret3
    exact ⟨rfl, rfl⟩
  cases hf : sF p
  · by_cases hl : sL p < n
    · have e : nOk p n = true := by simp [nOk, hk, hf, hl]
      rw [e]
      go_enter Tryz.func153, Tryz.ntmps153
      go_wp2_with (go_at_call 82; refine (rsplit_t p HP.out _).mono ?_; rintro e w' ⟨rfl, rfl⟩)
      go_ret3
      exact ⟨rfl, rfl⟩
    · have e : nOk p n = false := by simp [nOk, hl]
      rw [e]
      go_enter Tryz.func153, Tryz.ntmps153
      go_wp2_with (go_at_call 82; refine (rsplit_t p HP.out _).mono ?_; rintro e w' ⟨rfl, rfl⟩)
      go_ret3
      exact ⟨rfl, rfl⟩
  · have e : nOk p n = false := by simp [nOk, hf]
    rw [e]
    go_enter Tryz.func153, Tryz.ntmps153
    go_wp2_with (go_at_call 82; refine (rsplit_t p HP.out _).mono ?_; rintro e w' ⟨rfl, rfl⟩)
    go_ret3
    exact ⟨rfl, rfl⟩

/-- The same question, as the reference puts it. -/
def rU (p : Nat) (l n : Int) : Bool := sF p || (nOk p n && decide (l < sL p))

theorem leaf_iff (p : Nat) : sF p = (decide ((p : Int) = 9223372036854775808) || decide ((p : Int) = 9223372036854775809)) := by
  unfold sF
  congr 1
  · rw [decide_eq_decide]; omega
  · rw [decide_eq_decide]; omega

set_option maxHeartbeats 1000000 in
theorem runder_any (p : Nat) (l n : Int) (hp : p < 18446744073709551616) (w : World) :
    Calls Tryz.prog 156 #[.int .u64 p, .int .i64 l, .int .i64 n] w fun e w' => e = .returned (.bool (rU p l n)) ∧ w' = w := by
  have HP := Hid.intro_ hp
  have hc := hp
  clear hp hc
  unfold rU
  by_cases h1 : p = 9223372036854775808
  · have e : sF p = true := by subst h1; rfl
    have q : ((p : Int) == 9223372036854775808) = true := by simp; omega
    rw [e, Bool.true_or]
    clear h1
    go_enter Tryz.func156, Tryz.ntmps156
    go_wp2
    go_ret
    exact ⟨rfl, rfl⟩
  have q1 : ((p : Int) == 9223372036854775808) = false := by simp; omega
  by_cases h2 : p = 9223372036854775809
  · have e : sF p = true := by subst h2; rfl
    have q : ((p : Int) == 9223372036854775809) = true := by simp; omega
    rw [e, Bool.true_or]
    clear h1 h2
    go_enter Tryz.func156, Tryz.ntmps156
    go_wp2
    go_ret
    exact ⟨rfl, rfl⟩
  have q2 : ((p : Int) == 9223372036854775809) = false := by simp; omega
  have e : sF p = false := by unfold sF; rw [decide_eq_false h1, decide_eq_false h2]; rfl
  rw [e, Bool.false_or]
  clear h1 h2 e
  cases hk : nOk p n
  · have hn := node_any p n HP.out
    rw [hk] at hn
    rw [Bool.false_and]
    go_enter Tryz.func156, Tryz.ntmps156
    go_wp2_with (go_at_call 153; refine (hn _).mono ?_; rintro e w' ⟨rfl, rfl⟩)
    go_ret
    exact ⟨rfl, rfl⟩
  · have hn := node_any p n HP.out
    rw [hk] at hn
    rw [Bool.true_and]
    go_enter Tryz.func156, Tryz.ntmps156
    go_wp2_with (go_at_call 153; refine (hn _).mono ?_; rintro e w' ⟨rfl, rfl⟩)
    go_ret
    exact ⟨rfl, rfl⟩

theorem sL_lt (p : Nat) : 0 ≤ sL p ∧ sL p < 65536 := by
  unfold sL sIn
  split
  · rename_i h
    simp at h
    omega
  · omega
/-- The program and the reference ask the same. -/
theorem under_same (p : Nat) (l n : Int) (hl : 0 ≤ l) : rU p l n = uN p l n := by
  unfold rU uN pLv nOk
  have := sL_lt p
  cases hf : sF p
  · cases hk : sK p
    · have h2 : decide (l < -1) = false := by simp; omega
      simp [h2]
    · have h2 : decide (sL p = 65536) = false := by simp; omega
      simp [h2, Bool.and_comm]
  · have hk : sK p = true := by simp [sK, hf]
    simp [hk]
end Go.Proofs.YtadipinnbehhhaaGreatDoor
namespace Go.Proofs.YtadipinnbehhhaaGreatDoor
open Go.RowKit

def ndV (s l h : Nat) : Value := .agg #[.int .u64 s, .int .u64 l, .int .u64 h]
def rcV (a b c d : Nat) : Value := .agg #[.int .u64 a, .int .u64 b, .int .u64 c, .int .u64 d]

/-- What Inner answers. -/
def inner (l i : Int) : Int × Int := if l < 0 ∨ 65536 ≤ l ∨ i < 0 then (0, 1) else if 1099511627775 < i then (0, 8) else (l * 1099511627776 + i, 0)

theorem or_low (l i : Nat) (hl : l < 65536) (hi : i < 1099511627776) : bits .or .u64 ((l : Int) * 1099511627776) (i : Int) = (l : Int) * 1099511627776 + (i : Int) := by
  have h := bits_or_u64_nat (l * 1099511627776) i (by omega) (by omega)
  have e : l * 1099511627776 ||| i = l * 1099511627776 + i := by
    have := Nat.shiftLeft_add_eq_or_of_lt (show i < 2 ^ 40 by omega) l
    rw [Nat.shiftLeft_eq] at this
    exact this.symm
  rw [e] at h
  rw [Int.natCast_mul] at h
  exact h

set_option maxHeartbeats 1000000 in
theorem inner_any (l i : Int) (w : World) :
    Calls Tryz.prog 139 #[.int .i64 l, .int .i64 i] w fun e w' => e = .returned (.tuple #[.int .u64 (inner l i).1, .int .i64 (inner l i).2]) ∧ w' = w := by
  unfold inner
  by_cases h1 : l < 0
  · rw [if_pos (.inl h1)]
    go_enter Tryz.func139, Tryz.ntmps139
    go_wp2
    go_ret2
    exact ⟨rfl, rfl⟩
  by_cases h2 : 65536 ≤ l
  · rw [if_pos (.inr (.inl h2))]
    go_enter Tryz.func139, Tryz.ntmps139
    go_wp2
    go_ret2
    exact ⟨rfl, rfl⟩
  by_cases h3 : i < 0
  · rw [if_pos (.inr (.inr h3))]
    go_enter Tryz.func139, Tryz.ntmps139
    go_wp2
    go_ret2
    exact ⟨rfl, rfl⟩
  rw [if_neg (by omega)]
  by_cases h4 : 1099511627775 < i
  · rw [if_pos h4]
    go_enter Tryz.func139, Tryz.ntmps139
    go_wp2
    go_ret2
    exact ⟨rfl, rfl⟩
  · rw [if_neg h4]
    obtain ⟨a, rfl⟩ : ∃ a : Nat, l = a := ⟨l.toNat, by omega⟩
    obtain ⟨b, rfl⟩ : ∃ b : Nat, i = b := ⟨i.toNat, by omega⟩
    have ho := or_low a b (by omega) (by omega)
    go_enter Tryz.func139, Tryz.ntmps139
    go_wp2
    go_ret2
    exact ⟨rfl, rfl⟩

set_option maxHeartbeats 1000000 in
theorem rinner_any (l i : Int) (w : World) :
    Calls Tryz.prog 141 #[.int .i64 l, .int .i64 i] w fun e w' => e = .returned (.tuple #[.int .u64 (inner l i).1, .int .i64 (inner l i).2]) ∧ w' = w := by
  unfold inner
  by_cases h1 : l < 0
  · rw [if_pos (.inl h1)]
    go_enter Tryz.func141, Tryz.ntmps141
    go_wp2
    go_ret2
    exact ⟨rfl, rfl⟩
  by_cases h2 : 65536 ≤ l
  · rw [if_pos (.inr (.inl h2))]
    go_enter Tryz.func141, Tryz.ntmps141
    go_wp2
    go_ret2
    exact ⟨rfl, rfl⟩
  by_cases h3 : i < 0
  · rw [if_pos (.inr (.inr h3))]
    go_enter Tryz.func141, Tryz.ntmps141
    go_wp2
    go_ret2
    exact ⟨rfl, rfl⟩
  rw [if_neg (by omega)]
  by_cases h4 : 1099511627775 < i
  · rw [if_pos h4]
    go_enter Tryz.func141, Tryz.ntmps141
    go_wp2
    go_ret2
    exact ⟨rfl, rfl⟩
  · rw [if_neg h4]
    go_enter Tryz.func141, Tryz.ntmps141
    go_wp2
    go_ret2
    exact ⟨rfl, rfl⟩

set_option maxHeartbeats 1000000 in
theorem leaf_any (p : Nat) (w : World) :
    Calls Tryz.prog 94 #[.int .u64 p] w fun e w' => e = .returned (.bool (sF p)) ∧ w' = w := by
  by_cases h1 : p = 9223372036854775808
  · have e : sF p = true := by subst h1; rfl
    have q : ((p : Int) == 9223372036854775808) = true := by simp; omega
    rw [e]
    clear h1
    go_enter Tryz.func94, Tryz.ntmps94
    go_wp2
    go_ret
    exact ⟨rfl, rfl⟩
  have q1 : ((p : Int) == 9223372036854775808) = false := by simp; omega
  have e : sF p = ((p : Int) == 9223372036854775809) := by
    unfold sF
    rw [decide_eq_false h1, Bool.false_or, Bool.eq_iff_iff]
    simp
    omega
  rw [e]
  clear h1 e
  go_enter Tryz.func94, Tryz.ntmps94
  go_wp2
  go_ret
  exact ⟨rfl, rfl⟩

set_option maxHeartbeats 1000000 in
theorem first_any (s l h : Nat) (hs : s < 18446744073709551616) (w : World) :
    Calls Tryz.prog 134 #[ndV s l h] w fun e w' => e = .returned (.bool (sI s == 0)) ∧ Keep Nil w w' := by
  have HS := Hid.intro_ hs
  clear hs
  unfold ndV
  go_enter Tryz.func134, Tryz.ntmps134
  go_wp2_with (go_at_call 100; refine (split_t s HS.out _).mono ?_; rintro e w' ⟨rfl, rfl⟩)
  go_ret
  exact ⟨rfl, (Keep.refl Nil w).alloc _⟩

/-- Are the arcs (tl, th) behind (sl, sh)? -/
def bhd (tl th sl sh : Nat) : Bool := decide (sl < tl) || (decide (tl = sl) && decide (sh < th))

set_option maxHeartbeats 1000000 in
theorem behind_any (t tl th s sl sh : Nat) (w : World) :
    Calls Tryz.prog 138 #[ndV t tl th, ndV s sl sh] w fun e w' => e = .returned (.bool (bhd tl th sl sh)) ∧ Keep Nil w w' := by
  unfold ndV bhd
  have hk := ((Keep.refl Nil w).alloc (.cells #[.int .u64 t, .int .u64 tl, .int .u64 th] 46)).alloc (.cells #[.int .u64 s, .int .u64 sl, .int .u64 sh] 46)
  by_cases h1 : sl < tl
  · rw [decide_eq_true h1, Bool.true_or]
    have q1 : decide (sl < tl) = true := decide_eq_true h1
    clear h1
    go_enter Tryz.func138, Tryz.ntmps138
    go_wp2
    go_ret
    exact ⟨rfl, hk⟩
  rw [decide_eq_false h1, Bool.false_or]
  have q1 : decide (sl < tl) = false := decide_eq_false h1
  by_cases h2 : tl = sl
  · rw [decide_eq_true h2, Bool.true_and]
    have q2 : (tl == sl) = true := by simpa using h2
    have q2' : ((tl : Int) == (sl : Int)) = true := by simp; omega
    clear h1 h2
    go_enter Tryz.func138, Tryz.ntmps138
    go_wp2
    go_ret
    exact ⟨rfl, hk⟩
  · rw [decide_eq_false h2, Bool.false_and]
    have q2 : (tl == sl) = false := by simpa using h2
    have q2' : ((tl : Int) == (sl : Int)) = false := by simp; omega
    clear h1 h2
    go_enter Tryz.func138, Tryz.ntmps138
    go_wp2
    go_ret
    exact ⟨rfl, hk⟩

set_option maxHeartbeats 1000000 in
theorem rbehind_any (t tl th s sl sh : Nat) (w : World) :
    Calls Tryz.prog 142 #[ndV t tl th, ndV s sl sh] w fun e w' => e = .returned (.bool (bhd tl th sl sh)) ∧ Keep Nil w w' := by
  unfold ndV bhd
  have hk := ((Keep.refl Nil w).alloc (.cells #[.int .u64 t, .int .u64 tl, .int .u64 th] 46)).alloc (.cells #[.int .u64 s, .int .u64 sl, .int .u64 sh] 46)
  by_cases h1 : sl < tl
  · rw [decide_eq_true h1, Bool.true_or]
    have q1 : decide (sl < tl) = true := decide_eq_true h1
    clear h1
    go_enter Tryz.func142, Tryz.ntmps142
    go_wp2
    go_ret
    exact ⟨rfl, hk⟩
  rw [decide_eq_false h1, Bool.false_or]
  have q1 : decide (sl < tl) = false := decide_eq_false h1
  by_cases h2 : tl = sl
  · rw [decide_eq_true h2, Bool.true_and]
    have q2 : (tl == sl) = true := by simpa using h2
    have q2' : ((tl : Int) == (sl : Int)) = true := by simp; omega
    clear h1 h2
    go_enter Tryz.func142, Tryz.ntmps142
    go_wp2
    go_ret
    exact ⟨rfl, hk⟩
  · rw [decide_eq_false h2, Bool.false_and]
    have q2 : (tl == sl) = false := by simpa using h2
    have q2' : ((tl : Int) == (sl : Int)) = false := by simp; omega
    clear h1 h2
    go_enter Tryz.func142, Tryz.ntmps142
    go_wp2
    go_ret
    exact ⟨rfl, hk⟩

set_option maxHeartbeats 1000000 in
theorem record_any (s l h : Nat) (w : World) :
    Calls Tryz.prog 140 #[ndV s l h] w fun e w' => e = .returned (rcV s l h 0) ∧ Keep Nil w w' := by
  unfold ndV rcV
  go_enter Tryz.func140, Tryz.ntmps140
  go_wp2
  refine bodyPost_ret (v := .agg #[.int .u64 s, .int .u64 l, .int .u64 h, .int .u64 0]) (by simp [results, Tryz.results140, go_sem]) rfl ⟨rfl, ((Keep.refl Nil w).alloc _).alloc _⟩

set_option maxHeartbeats 1000000 in
theorem rec_any (s l h : Nat) (w : World) :
    Calls Tryz.prog 89 #[ndV s l h] w fun e w' => e = .returned (rcV s l h 0) ∧ Keep Nil w w' := by
  unfold ndV rcV
  go_enter Tryz.func89, Tryz.ntmps89
  go_wp2
  refine bodyPost_ret (v := .agg #[.int .u64 s, .int .u64 l, .int .u64 h, .int .u64 0]) (by simp [results, Tryz.results89, go_sem]) rfl ⟨rfl, ((Keep.refl Nil w).alloc _).alloc _⟩

set_option maxHeartbeats 1000000 in
theorem end_any (v n : Nat) (root : Nat) (hv : v < 9223372036854775808) (hn : n < 9223372036854775808) (w : World) :
    Calls Tryz.prog 90 #[.agg #[.int .i64 v, .int .u64 root, .int .i64 n]] w fun e w' => e = .returned (rcV 18446744073709551615 v root n) ∧ Keep Nil w w' := by
  unfold rcV
  go_enter Tryz.func90, Tryz.ntmps90
  go_wp2
  refine bodyPost_ret (v := .agg #[.int .u64 18446744073709551615, .int .u64 v, .int .u64 root, .int .u64 n]) (by simp [results, Tryz.results90, go_sem]) rfl ⟨rfl, ((Keep.refl Nil w).alloc _).alloc _⟩

/-- Is (a, b, c, d) a node record over n levels? -/
def isN (a b c d : Nat) (n : Int) : Bool := nOk a n && decide (d = 0) && !decide (b = c) && rU b (sL a) n && rU c (sL a) n

set_option maxRecDepth 100000 in
set_option maxHeartbeats 2000000 in
theorem isNode_any (a b c d : Nat) (n : Int) (ha : a < 18446744073709551616) (hb : b < 18446744073709551616) (hc : c < 18446744073709551616) (w : World) :
    Calls Tryz.prog 81 #[rcV a b c d, .int .i64 n] w fun e w' => e = .returned (.tuple #[if isN a b c d n = true then ndV a b c else ndV 0 0 0, .bool (isN a b c d n)]) ∧ Keep Nil w w' := by
  obtain ⟨ans, hans⟩ : ∃ v, v = Value.tuple #[if isN a b c d n = true then ndV a b c else ndV 0 0 0, .bool (isN a b c d n)] := ⟨_, rfl⟩
  rw [← hans]
  have HA := Hid.intro_ hans
  have hn := node_any a n ha
  have hu := runder_any b (sL a) n hb
  have hu2 := runder_any c (sL a) n hc
  clear ha hb hc hans
  unfold rcV
  cases h1 : nOk a n
  · have HE := Hid.intro_ (show isN a b c d n = false by simp [isN, h1])
    rw [h1] at hn
    clear h1
    go_enter Tryz.func81, Tryz.ntmps81
    go_wp2_with (first
      | (go_at_call 153; refine (hn _).mono ?_; rintro e w' ⟨rfl, rfl⟩)
      | (go_at_call 156; with_reducible refine (hu _).mono ?_; rintro e w' ⟨rfl, rfl⟩)
      | (go_at_call 156; with_reducible refine (hu2 _).mono ?_; rintro e w' ⟨rfl, rfl⟩))
    refine bodyPost_ret (v := .tuple #[.agg #[.int .u64 0, .int .u64 0, .int .u64 0], .bool false]) (by simp [results, Tryz.results81, go_sem]) rfl ⟨by rw [HA.out, HE.out]; rfl, (((Keep.refl Nil _).alloc _).alloc _).alloc _⟩
  rw [h1] at hn
  by_cases h2 : d = 0
  · subst h2
    by_cases h3 : b = c
    · subst h3
      have HE := Hid.intro_ (show isN a b b 0 n = false by simp [isN])
      clear h1
      go_enter Tryz.func81, Tryz.ntmps81
      go_wp2_with (first
        | (go_at_call 153; refine (hn _).mono ?_; rintro e w' ⟨rfl, rfl⟩)
        | (go_at_call 156; with_reducible refine (hu _).mono ?_; rintro e w' ⟨rfl, rfl⟩)
        | (go_at_call 156; with_reducible refine (hu2 _).mono ?_; rintro e w' ⟨rfl, rfl⟩))
      refine bodyPost_ret (v := .tuple #[.agg #[.int .u64 0, .int .u64 0, .int .u64 0], .bool false]) (by simp [results, Tryz.results81, go_sem]) rfl ⟨by rw [HA.out, HE.out]; rfl, (((Keep.refl Nil _).alloc _).alloc _).alloc _⟩
    · have q3 : (b == c) = false := by simpa using h3
      have q3' : ((b : Int) == (c : Int)) = false := by simp; omega
      cases h4 : rU b (sL a) n
      · have HE := Hid.intro_ (show isN a b c 0 n = false by simp [isN, h4])
        rw [h4] at hu
        clear h1 h4
        go_enter Tryz.func81, Tryz.ntmps81
        go_wp2_with (first
          | (go_at_call 153; refine (hn _).mono ?_; rintro e w' ⟨rfl, rfl⟩)
          | (go_at_call 156; with_reducible refine (hu _).mono ?_; rintro e w' ⟨rfl, rfl⟩)
          | (go_at_call 156; with_reducible refine (hu2 _).mono ?_; rintro e w' ⟨rfl, rfl⟩))
        refine bodyPost_ret (v := .tuple #[.agg #[.int .u64 0, .int .u64 0, .int .u64 0], .bool false]) (by simp [results, Tryz.results81, go_sem]) rfl ⟨by rw [HA.out, HE.out]; rfl, (((Keep.refl Nil _).alloc _).alloc _).alloc _⟩
      · rw [h4] at hu
        cases h5 : rU c (sL a) n
        · have HE := Hid.intro_ (show isN a b c 0 n = false by simp [isN, h5])
          rw [h5] at hu2
          clear h1 h4 h5
          go_enter Tryz.func81, Tryz.ntmps81
          go_wp2_with (first
            | (go_at_call 153; refine (hn _).mono ?_; rintro e w' ⟨rfl, rfl⟩)
            | (go_at_call 156; with_reducible refine (hu _).mono ?_; rintro e w' ⟨rfl, rfl⟩)
            | (go_at_call 156; with_reducible refine (hu2 _).mono ?_; rintro e w' ⟨rfl, rfl⟩))
          refine bodyPost_ret (v := .tuple #[.agg #[.int .u64 0, .int .u64 0, .int .u64 0], .bool false]) (by simp [results, Tryz.results81, go_sem]) rfl ⟨by rw [HA.out, HE.out]; rfl, (((Keep.refl Nil _).alloc _).alloc _).alloc _⟩
        · have HE := Hid.intro_ (show isN a b c 0 n = true by simp [isN, h1, h3, h4, h5])
          rw [h5] at hu2
          clear h1 h4 h5
          go_enter Tryz.func81, Tryz.ntmps81
          go_wp2_with (first
            | (go_at_call 153; refine (hn _).mono ?_; rintro e w' ⟨rfl, rfl⟩)
            | (go_at_call 156; with_reducible refine (hu _).mono ?_; rintro e w' ⟨rfl, rfl⟩)
            | (go_at_call 156; with_reducible refine (hu2 _).mono ?_; rintro e w' ⟨rfl, rfl⟩))
          refine bodyPost_ret (v := .tuple #[.agg #[.int .u64 a, .int .u64 b, .int .u64 c], .bool true]) (by simp [results, Tryz.results81, go_sem]) rfl ⟨by rw [HA.out, HE.out]; rfl, (((Keep.refl Nil _).alloc _).alloc _).alloc _⟩
  · have HE := Hid.intro_ (show isN a b c d n = false by simp [isN, h2])
    have q2 : ((d : Int) == 0) = false := by simp; omega
    have q2' : (d == 0) = false := by simpa using h2
    clear h1 h2
    go_enter Tryz.func81, Tryz.ntmps81
    go_wp2_with (first
      | (go_at_call 153; refine (hn _).mono ?_; rintro e w' ⟨rfl, rfl⟩)
      | (go_at_call 156; with_reducible refine (hu _).mono ?_; rintro e w' ⟨rfl, rfl⟩)
      | (go_at_call 156; with_reducible refine (hu2 _).mono ?_; rintro e w' ⟨rfl, rfl⟩))
    refine bodyPost_ret (v := .tuple #[.agg #[.int .u64 0, .int .u64 0, .int .u64 0], .bool false]) (by simp [results, Tryz.results81, go_sem]) rfl ⟨by rw [HA.out, HE.out]; rfl, (((Keep.refl Nil _).alloc _).alloc _).alloc _⟩
end Go.Proofs.YtadipinnbehhhaaGreatDoor
namespace Go.Proofs.YtadipinnbehhhaaGreatDoor
open Go.RowKit

/-- A node: its three words. -/
structure N3 where
  self : Nat
  low : Nat
  high : Nat
structure N3.Ok (n : N3) : Prop where
  a : n.self < 18446744073709551616
  b : n.low < 18446744073709551616
  c : n.high < 18446744073709551616
def N3.rec4 (n : N3) : R4 := ⟨n.self, n.low, n.high, 0⟩

structure BSt where
  vars : Nat
  last : N3
  some_ : Bool
  dead : Int
  done : Bool

def bldCells (b : Nat) (y : BSt) : Array Value :=
  #[.pointer (some ⟨b, 0, none⟩), .int .i64 y.vars, .int .u64 y.last.self, .int .u64 y.last.low, .int .u64 y.last.high, .bool y.some_, .int .i64 y.dead, .bool y.done]

/-- A builder over a writer. -/
structure BldAt (c : Cx) (w : World) (bb b : Nat) (G : Nat → Prop) (s : RSt) (x : WSt) (y : BSt) : Prop where mk ::
  out : ∃ G0, G = (fun z => G0 z ∨ z = bb) ∧ WrtAt c w b G0 s x ∧ Off c.E G0 bb
  blk : Blk w bb 145 (bldCells b y)
  ok : y.last.Ok

def BldTo (c : Cx) (bb b : Nat) (G : Nat → Prop) (s' : RSt) (x' : WSt) (y' : BSt) (w w' : World) : Prop := ∃ G', BldAt c w' bb b G' s' x' y' ∧ Stp w G w' G'

/-- What turns beside a writer. -/
theorem WrtAt.keep {c : Cx} {w w' : World} {b : Nat} {G H : Nat → Prop} {s : RSt} {x : WSt} (h : WrtAt c w b G s x) (k : Keep H w w') (hH : ∀ y, H y → Off c.E G y) : WrtAt c w' b G s x := by
  obtain ⟨G0, v, rfl, hr, hb, nb, hl⟩ := h.out
  refine ⟨⟨G0, v, rfl, ?_, hb.keep k (fun hf => (hH _ hf).1 (.inl (.inr rfl))), nb, hl.keep k (fun g hg hf => (hH _ hf).1 (.inr hg))⟩, h.kind, h.len, h.dead⟩
  refine hr.keep k (fun y hy hf => (hH y hf).1 (.inl (.inl hy))) ⟨⟨hr.env.errs.errs, fun i hi hf => ((hH _ hf).2.1 i hi).1 rfl, fun i hi hf => ((hH _ hf).2.1 i hi).2 rfl⟩, hr.env.halves, hr.env.magic, fun hf => (hH _ hf).2.2.1 rfl, fun hf => (hH _ hf).2.2.2 rfl⟩

section
variable {c : Cx} {w w' w2 w0 : World} {bb b : Nat} {G G' : Nat → Prop} {s s' s2 : RSt} {x x' x2 : WSt} {y y' y2 : BSt}
theorem BldTo.refl (h : BldAt c w bb b G s x y) : BldTo c bb b G s x y w w := ⟨G, h, Stp.refl _ _⟩
theorem BldAt.nil (h : BldAt c w bb b G s x y) (k : Keep Nil w w') : BldAt c w' bb b G s x y := by
  obtain ⟨G0, rfl, hw, nb⟩ := h.out
  exact ⟨⟨G0, rfl, hw.nil k, nb⟩, h.blk.keep k (fun h => h), h.ok⟩
theorem BldTo.nil (h : BldTo c bb b G s' x' y' w w') (k : Keep Nil w' w2) : BldTo c bb b G s' x' y' w w2 := by
  obtain ⟨G1, h1, s1⟩ := h
  exact ⟨G1, h1.nil k, s1.then_nil k⟩
theorem BldTo.from_nil (h : BldTo c bb b G s' x' y' w w') (k : Keep Nil w0 w) : BldTo c bb b G s' x' y' w0 w' := by
  obtain ⟨G1, h1, s1⟩ := h
  exact ⟨G1, h1, (Stp.of_nil k _).trans s1⟩
theorem BldTo.then_ (h : BldTo c bb b G s' x' y' w w') (t : ∀ G', BldAt c w' bb b G' s' x' y' → BldTo c bb b G' s2 x2 y2 w' w2) : BldTo c bb b G s2 x2 y2 w w2 := by
  obtain ⟨G1, h1, s1⟩ := h
  obtain ⟨G2, h2, s2⟩ := t G1 h1
  exact ⟨G2, h2, s1.trans s2⟩
theorem BldAt.lt (h : BldAt c w bb b G s x y) (z : Nat) (hz : G z) : z < w.heap.size := by
  obtain ⟨G0, rfl, hw, nb⟩ := h.out
  rcases hz with hz | hz
  · exact hw.lt z hz
  · rw [hz]; exact h.blk.lt
/-- The writer of a builder; where it turns the builder stays. -/
theorem BldAt.via (h : BldAt c w bb b G s x y) : ∃ G0, WrtAt c w b G0 s x ∧ (∀ z, G0 z → G z) ∧ ∀ s' x' w', WrtTo c b G0 s' x' w w' → BldTo c bb b G s' x' y w w' := by
  obtain ⟨G0, rfl, hw, nb⟩ := h.out
  refine ⟨G0, hw, fun z hz => .inl hz, fun s' x' w' t => ?_⟩
  obtain ⟨G1, h1, s1⟩ := t
  exact ⟨_, ⟨⟨G1, rfl, h1, nb.step h.blk.lt s1⟩, h.blk.keep s1.keep nb.1, h.ok⟩, s1.part (fun z => z = bb)⟩
/-- The builder's own cells turned. -/
theorem BldAt.recell (h : BldAt c w bb b G s x y) (k : Keep (fun z => z = bb) w w') (hb : Blk w' bb 145 (bldCells b y')) (ho : y'.last.Ok) : BldTo c bb b G s x y' w w' := by
  obtain ⟨G0, rfl, hw, nb⟩ := h.out
  exact ⟨_, ⟨⟨G0, rfl, hw.keep k (fun z e => by rw [show z = bb from e]; exact nb), nb⟩, hb, ho⟩, ⟨k.mono (fun z _ e => .inr e), fun z hz => .inl hz⟩⟩
end

/-- What stands of a call on a builder that answers a number. -/
def BPost (c : Cx) (bb b : Nat) (G : Nat → Prop) (w : World) (q : Int × RSt × WSt × BSt) (e : Ending) (w' : World) : Prop := e = .returned (.int .i64 q.1) ∧ BldTo c bb b G q.2.1 q.2.2.1 q.2.2.2 w w'

/-- What Drop comes to. -/
def bdrop (c : Cx) (s : RSt) (x : WSt) (y : BSt) : Int × RSt × WSt × BSt :=
  if y.done = true then (6, s, x, y) else ((wdrop c s x).1, (wdrop c s x).2.1, (wdrop c s x).2.2, { y with done := true })

set_option maxRecDepth 100000 in
set_option maxHeartbeats 2000000 in
theorem bdrop_any (c : Cx) (w : World) (bb b : Nat) (G : Nat → Prop) (s : RSt) (x : WSt) (y : BSt) (h : BldAt c w bb b G s x y) :
    Calls Tryz.prog 19 #[.pointer (some ⟨bb, 0, none⟩)] w (BPost c bb b G w (bdrop c s x y)) := by
  have c0 : w.cell? ⟨bb, 0, none⟩ = some (.pointer (some ⟨b, 0, none⟩)) := h.blk.at_ 0
  have c7 : w.cell? ⟨bb, 7, none⟩ = some (.bool y.done) := h.blk.at_ 7
  have f7 := h.blk.fr 7
  cases hd : y.done
  · have HX := Hid.intro_ (show bdrop c s x y = ((wdrop c s x).1, (wdrop c s x).2.1, (wdrop c s x).2.2, { y with done := true }) by unfold bdrop; rw [if_neg (by simp [hd])])
    rw [hd] at c7
    have hto := h.recell (y' := { y with done := true }) ((Keep.refl (fun z => z = bb) w).setCell (p := ⟨bb, 7, none⟩) (fun _ => rfl) (.bool true)) (h.blk.set_ 7 _) h.ok
    obtain ⟨G1, h1, s1⟩ := hto
    obtain ⟨G0, hw1, _, hvia⟩ := h1.via
    have hdr := drop_any c _ b G0 s x hw1
    have S1 := Hid.intro_ s1
    have e0 := Hid.intro_ (show World.cell? _ ⟨bb, 0, none⟩ = some (.pointer (some ⟨b, 0, none⟩)) from h1.blk.at_ 0)
    have HD := Hid.intro_ hdr
    have HV := Hid.intro_ hvia
    clear hd s1 hdr hvia
    go_enter Tryz.func19, Tryz.ntmps19
    go_wp2_with (go_at_call 73; refine HD.out.mono ?_; rintro e w2 ⟨rfl, ht⟩)
    go_ret
    rw [HX.out]
    obtain ⟨G2, h2, s2⟩ := HV.out _ _ _ ht
    exact ⟨rfl, G2, h2, S1.out.trans s2⟩
  · have HX := Hid.intro_ (show bdrop c s x y = (6, s, x, y) by unfold bdrop; rw [if_pos hd])
    rw [hd] at c7
    clear hd
    go_enter Tryz.func19, Tryz.ntmps19
    go_wp2
    go_ret
    rw [HX.out]
    exact ⟨rfl, BldTo.refl h⟩

/-- What stands behind Begin. -/
structure BgP (c : Cx) (G : Nat → Prop) (X : Int × DSt × PSt) (s : RSt) (name : ByteArray) (vars : Int) (w : World) (e : Ending) (w' : World) : Prop where mk ::
  out : (¬ X.1 = 0 ∧ e = .returned (.tuple #[.pointer none, .int .i64 X.1]) ∧ RmTo c G { s with D := X.2.1, S := X.2.2 } w w') ∨
    (X.1 = 0 ∧ ∃ bb b, e = .returned (.tuple #[.pointer (some ⟨bb, 0, none⟩), .int .i64 0]) ∧
      BldTo c bb b G { s with D := X.2.1, S := X.2.2 } { name := name, kind := 2, dead := 0, done := false, place := 0, count := 0, list := [] } { vars := vars.toNat, last := ⟨0, 0, 0⟩, some_ := false, dead := 0, done := false } w w')

/-- What Begin comes to. -/
def begins (s : RSt) (K : Nat) (name : ByteArray) (vars : Int) : Int × DSt × PSt := if vars < 0 ∨ 65536 < vars then (1, s.D, s.S) else openW s.D s.S K name 2

set_option maxHeartbeats 1000000 in
theorem begin_nil (name : ByteArray) (vars : Int) (w : World) :
    Calls Tryz.prog 13 #[.pointer none, .string name, .int .i64 vars] w fun e w' => e = .returned (.tuple #[.pointer none, .int .i64 1]) ∧ w' = w := by
  go_enter Tryz.func13, Tryz.ntmps13
  go_wp2
  go_ret2
  exact ⟨rfl, rfl⟩

set_option maxRecDepth 100000 in
set_option maxHeartbeats 2000000 in
theorem begin_any (c : Cx) (w : World) (G : Nat → Prop) (s : RSt) (name : ByteArray) (vars : Int) (h : RmAt c w G s) :
    Calls Tryz.prog 13 #[.pointer (some ⟨c.k, 0, none⟩), .string name, .int .i64 vars] w (BgP c G (begins s c.K name vars) s name vars w) := by
  by_cases hv : vars < 0 ∨ 65536 < vars
  · have HX := Hid.intro_ (show begins s c.K name vars = (1, s.D, s.S) from if_pos hv)
    rcases hv with hv | hv
    · go_enter Tryz.func13, Tryz.ntmps13
      go_wp2
      go_ret2
      rw [HX.out]
      exact ⟨.inl ⟨(by decide : ¬ (1 : Int) = 0), rfl, RmTo.refl h⟩⟩
    · have h0 : ¬ vars < 0 := by omega
      go_enter Tryz.func13, Tryz.ntmps13
      go_wp2
      go_ret2
      rw [HX.out]
      exact ⟨.inl ⟨(by decide : ¬ (1 : Int) = 0), rfl, RmTo.refl h⟩⟩
  · have HX := Hid.intro_ (show begins s c.K name vars = openW s.D s.S c.K name 2 from if_neg hv)
    have h0 : 0 ≤ vars := by omega
    have h1 : vars ≤ 65536 := by omega
    have hw := write_rm c w G s name 2 h
    rw [show ((2 : Nat) : Int) = 2 from rfl] at hw
    obtain ⟨X, hX⟩ : ∃ X, X = openW s.D s.S c.K name 2 := ⟨_, rfl⟩
    rw [← hX] at HX hw
    have HW := Hid.intro_ hw
    clear hv hX hw
    by_cases hz : X.1 = 0
    · have HZ := Hid.intro_ hz
      clear hz
      go_enter Tryz.func13, Tryz.ntmps13
      go_wp2_with (go_at_call 62; refine HW.out.mono ?_; rintro e w1 hq
                   obtain ⟨hq0, b, rfl, hb, ht⟩ := hq.out.resolve_left (fun h => h.1 HZ.out))
      go_ret2
      rw [HX.out]
      obtain ⟨G1, h1', s1⟩ := ht
      refine ⟨.inr ⟨HZ.out, w1.heap.size, b, rfl, ?_⟩⟩
      have ho := Off.new h1'.env h1'.lt (Nat.le_refl _)
      refine ⟨_, ⟨⟨G1, rfl, h1'.nil ((Keep.refl Nil w1).alloc _), ho⟩, ?_, ⟨(by decide : 0 < 18446744073709551616), (by decide : 0 < 18446744073709551616), (by decide : 0 < 18446744073709551616)⟩⟩, ⟨s1.keep.trans ((Keep.refl Nil w1).alloc _) (fun _ _ h => h.elim), fun z hz => ?_⟩⟩
      · have := Blk.new w1 145 (bldCells b { vars := vars.toNat, last := ⟨0, 0, 0⟩, some_ := false, dead := 0, done := false })
        simpa [bldCells, show ((vars.toNat : Nat) : Int) = vars from by omega] using this
      · rcases hz with hz | hz
        · exact s1.grow z hz
        · exact .inr (by rw [hz]; exact s1.keep.size)
    · have q : (X.1 != 0) = true := by simpa using hz
      have HZ := Hid.intro_ hz
      clear hz
      go_enter Tryz.func13, Tryz.ntmps13
      go_wp2_with (go_at_call 62; refine HW.out.mono ?_; rintro e w1 hq
                   obtain ⟨_, rfl, ht⟩ := hq.out.resolve_right (fun h => HZ.out h.1))
      go_ret2
      rw [HX.out]
      exact ⟨.inl ⟨HZ.out, rfl, ht⟩⟩
end Go.Proofs.YtadipinnbehhhaaGreatDoor
namespace Go.Proofs.YtadipinnbehhhaaGreatDoor
open Go.RowKit

/-- A root that may not be. -/
def badRoot (y : BSt) (root : Nat) : Bool := if y.some_ then !decide (root = y.last.self) || !decide (sI y.last.self = 0) else !sF root

/-- The record that ends a file. -/
def endRec (y : BSt) (root count : Nat) : R4 := ⟨18446744073709551615, y.vars, root, count⟩

/-- What Done comes to. -/
def bdone (c : Cx) (s : RSt) (x : WSt) (y : BSt) (root : Nat) : Int × RSt × WSt × BSt :=
  if y.done = true then (6, s, x, y)
  else if ¬ y.dead = 0 then (y.dead, (wclose c s x).2.1, (wclose c s x).2.2, { y with done := true })
  else if badRoot y root = true then (71, s, x, y)
  else (if (wput c s x (endRec y root x.count)).1 = 0 then (wclose c (wput c s x (endRec y root x.count)).2.1 (wput c s x (endRec y root x.count)).2.2).1 else (wput c s x (endRec y root x.count)).1,
    (wclose c (wput c s x (endRec y root x.count)).2.1 (wput c s x (endRec y root x.count)).2.2).2.1, (wclose c (wput c s x (endRec y root x.count)).2.1 (wput c s x (endRec y root x.count)).2.2).2.2, { y with done := true })

theorem wput_place (c : Cx) (s : RSt) (x : WSt) (r : R4) : (wput c s x r).2.2.place ≤ x.place + 1 := by
  unfold wput
  split
  · exact Nat.le_succ _
  split
  · exact Nat.le_succ _
  split
  · rename_i h
    have := wflush_ok h
    show (wflush c s { x with list := x.list ++ [r] }).2.2.place ≤ _
    rw [this]
    exact Nat.le_refl _
  · exact Nat.le_succ _

section
variable (c : Cx) (w : World) (bb b : Nat) (G : Nat → Prop) (s : RSt) (x : WSt) (y : BSt) (root : Nat)

/-- 'done' is set. -/
theorem BldAt.donned {c : Cx} {w : World} {bb b : Nat} {G : Nat → Prop} {s : RSt} {x : WSt} {y : BSt} (h : BldAt c w bb b G s x y) : BldTo c bb b G s x { y with done := true } w (w.setCell ⟨bb, 5 + 2, none⟩ (.bool true)) :=
  h.recell (y' := { y with done := true }) ((Keep.refl (fun z => z = bb) w).setCell (p := ⟨bb, 7, none⟩) (fun _ => rfl) (.bool true)) (h.blk.set_ 7 _) h.ok

set_option maxRecDepth 100000 in
set_option maxHeartbeats 2000000 in
theorem bdone_shut (h : BldAt c w bb b G s x y) (hd : y.done = true) :
    Calls Tryz.prog 65 #[.pointer (some ⟨bb, 0, none⟩), .int .u64 root] w (BPost c bb b G w (bdone c s x y root)) := by
  have c7 : w.cell? ⟨bb, 7, none⟩ = some (.bool y.done) := h.blk.at_ 7
  have HX := Hid.intro_ (show bdone c s x y root = (6, s, x, y) by unfold bdone; rw [if_pos hd])
  rw [hd] at c7
  clear hd
  go_enter Tryz.func65, Tryz.ntmps65
  go_wp2
  go_ret
  rw [HX.out]
  exact ⟨rfl, BldTo.refl h⟩

set_option maxRecDepth 100000 in
set_option maxHeartbeats 2000000 in
theorem bdone_dead (h : BldAt c w bb b G s x y) (hd : y.done = false) (hq : ¬ y.dead = 0) (hp : x.place < 4611686018427387904) :
    Calls Tryz.prog 65 #[.pointer (some ⟨bb, 0, none⟩), .int .u64 root] w (BPost c bb b G w (bdone c s x y root)) := by
  have c0 : w.cell? ⟨bb, 0, none⟩ = some (.pointer (some ⟨b, 0, none⟩)) := h.blk.at_ 0
  have c6 : w.cell? ⟨bb, 6, none⟩ = some (.int .i64 y.dead) := h.blk.at_ 6
  have c7 : w.cell? ⟨bb, 7, none⟩ = some (.bool y.done) := h.blk.at_ 7
  have f7 := h.blk.fr 7
  have HX := Hid.intro_ (show bdone c s x y root = (y.dead, (wclose c s x).2.1, (wclose c s x).2.2, { y with done := true }) by unfold bdone; rw [if_neg (by simp [hd]), if_pos hq])
  rw [hd] at c7
  have q : (y.dead != 0) = true := by simpa using hq
  obtain ⟨G1, h1, s1⟩ := h.donned
  obtain ⟨G0, hw1, _, hvia⟩ := h1.via
  have HC := Hid.intro_ (close_any_w c _ b G0 s x hw1 hp)
  have HV := Hid.intro_ hvia
  have S1 := Hid.intro_ s1
  have H1 := Hid.intro_ h1
  clear hd hq s1 hvia
  go_enter Tryz.func65, Tryz.ntmps65
  go_wp2_with (go_at_call 133; refine HC.out.mono ?_; rintro e w2 ⟨rfl, ht⟩
               obtain ⟨G2, h2, s2⟩ := HV.out _ _ _ ht
               have S2 := Hid.intro_ s2
               have e6 : w2.cell? ⟨bb, 6, none⟩ = some (.int .i64 y.dead) := h2.blk.at_ 6
               clear s2)
  go_ret
  rw [HX.out]
  exact ⟨rfl, G2, h2, S1.out.trans S2.out⟩

set_option maxRecDepth 100000 in
set_option maxHeartbeats 2000000 in
theorem bdone_root (h : BldAt c w bb b G s x y) (hd : y.done = false) (hq : y.dead = 0) (hr : badRoot y root = true) (_hroot : root < 18446744073709551616) :
    Calls Tryz.prog 65 #[.pointer (some ⟨bb, 0, none⟩), .int .u64 root] w (BPost c bb b G w (bdone c s x y root)) := by
  have c2 : w.cell? ⟨bb, 2, none⟩ = some (.int .u64 y.last.self) := h.blk.at_ 2
  have c3 : w.cell? ⟨bb, 3, none⟩ = some (.int .u64 y.last.low) := h.blk.at_ 3
  have c4 : w.cell? ⟨bb, 4, none⟩ = some (.int .u64 y.last.high) := h.blk.at_ 4
  have c5 : w.cell? ⟨bb, 5, none⟩ = some (.bool y.some_) := h.blk.at_ 5
  have c6 : w.cell? ⟨bb, 6, none⟩ = some (.int .i64 y.dead) := h.blk.at_ 6
  have c7 : w.cell? ⟨bb, 7, none⟩ = some (.bool y.done) := h.blk.at_ 7
  have HX := Hid.intro_ (show bdone c s x y root = (71, s, x, y) by unfold bdone; rw [if_neg (by simp [hd]), if_neg (by simp [hq]), if_pos hr])
  have hok := h.ok
  rw [hd] at c7
  rw [hq] at c6
  unfold badRoot at hr
  cases hs : y.some_
  · rw [hs] at c5 hr
    have hl : sF root = false := by simpa using hr
    have hlf := leaf_any root w
    rw [hl] at hlf
    clear hd hq hr hl hs
    go_enter Tryz.func65, Tryz.ntmps65
    go_wp2_with (go_at_call 94; refine hlf.mono ?_; rintro e w' ⟨rfl, hw⟩; obtain rfl := hw.symm)
    go_ret
    rw [HX.out]
    exact ⟨rfl, BldTo.refl h⟩
  · rw [hs] at c5 hr
    by_cases he : root = y.last.self
    · have hi : ¬ sI y.last.self = 0 := by simpa [he] using hr
      have hf := first_any y.last.self y.last.low y.last.high hok.a w
      rw [show (sI y.last.self == 0) = false by simpa using hi] at hf
      unfold ndV at hf
      have q : ((root : Int) != (y.last.self : Int)) = false := by rw [he]; simp
      clear hd hq hr hi hs he
      go_enter Tryz.func65, Tryz.ntmps65
      go_wp2_with (go_at_call 134; refine hf.mono ?_; rintro e w1 ⟨rfl, k1⟩)
      go_ret
      rw [HX.out]
      exact ⟨rfl, (BldTo.refl h).nil k1⟩
    · have q : ((root : Int) != (y.last.self : Int)) = true := by rw [bne_iff_ne]; omega
      clear hd hq hr hs he
      go_enter Tryz.func65, Tryz.ntmps65
      go_wp2
      go_ret
      rw [HX.out]
      exact ⟨rfl, BldTo.refl h⟩

set_option maxRecDepth 100000 in
set_option maxHeartbeats 4000000 in
theorem bdone_good (h : BldAt c w bb b G s x y) (hd : y.done = false) (hq : y.dead = 0) (hr : badRoot y root = false) (hroot : root < 18446744073709551616) (hv : y.vars ≤ 65536) (hlen : x.list.length < c.K) (hp : x.place < 2305843009213693952) (hcn : x.count < 4611686018427387904) :
    Calls Tryz.prog 65 #[.pointer (some ⟨bb, 0, none⟩), .int .u64 root] w (BPost c bb b G w (bdone c s x y root)) := by
  have c0 : w.cell? ⟨bb, 0, none⟩ = some (.pointer (some ⟨b, 0, none⟩)) := h.blk.at_ 0
  have c1 : w.cell? ⟨bb, 1, none⟩ = some (.int .i64 y.vars) := h.blk.at_ 1
  have c2 : w.cell? ⟨bb, 2, none⟩ = some (.int .u64 y.last.self) := h.blk.at_ 2
  have c3 : w.cell? ⟨bb, 3, none⟩ = some (.int .u64 y.last.low) := h.blk.at_ 3
  have c4 : w.cell? ⟨bb, 4, none⟩ = some (.int .u64 y.last.high) := h.blk.at_ 4
  have c5 : w.cell? ⟨bb, 5, none⟩ = some (.bool y.some_) := h.blk.at_ 5
  have c6 : w.cell? ⟨bb, 6, none⟩ = some (.int .i64 y.dead) := h.blk.at_ 6
  have c7 : w.cell? ⟨bb, 7, none⟩ = some (.bool y.done) := h.blk.at_ 7
  have f7 := h.blk.fr 7
  have HX := Hid.intro_ (show bdone c s x y root = (if (wput c s x (endRec y root x.count)).1 = 0 then (wclose c (wput c s x (endRec y root x.count)).2.1 (wput c s x (endRec y root x.count)).2.2).1 else (wput c s x (endRec y root x.count)).1,
    (wclose c (wput c s x (endRec y root x.count)).2.1 (wput c s x (endRec y root x.count)).2.2).2.1, (wclose c (wput c s x (endRec y root x.count)).2.1 (wput c s x (endRec y root x.count)).2.2).2.2, { y with done := true }) by unfold bdone; rw [if_neg (by simp [hd]), if_neg (by simp [hq]), if_neg (by simp [hr])])
  have hok := h.ok
  have hpl := wput_place c s x (endRec y root x.count)
  have hero : (endRec y root x.count).Ok := ⟨(by decide : 18446744073709551615 < 18446744073709551616), (by show y.vars < _; omega), hroot, (by show x.count < _; omega)⟩
  obtain ⟨q, hqq⟩ : ∃ q, q = wput c s x (endRec y root x.count) := ⟨_, rfl⟩
  obtain ⟨p, hpp⟩ : ∃ p, p = wclose c q.2.1 q.2.2 := ⟨_, rfl⟩
  rw [← hqq] at hpl
  have HXX : Hid (bdone c s x y root = (if q.1 = 0 then p.1 else q.1, p.2.1, p.2.2, { y with done := true })) := by rw [hpp, hqq]; exact HX.out
  -- the builder, once 'done' is set, and what Put does
  have hput : ∀ w1, Keep Nil w w1 → ∃ G1 G0, Hid (Stp w G (w1.setCell ⟨bb, 7, none⟩ (.bool true)) G1) ∧ Hid (BldAt c (w1.setCell ⟨bb, 7, none⟩ (.bool true)) bb b G1 s x { y with done := true }) ∧ Hid (WrtAt c (w1.setCell ⟨bb, 7, none⟩ (.bool true)).drew b G0 s x) ∧
      Hid (∀ s' x' w', WrtTo c b G0 s' x' (w1.setCell ⟨bb, 7, none⟩ (.bool true)).drew w' → BldTo c bb b G1 s' x' { y with done := true } (w1.setCell ⟨bb, 7, none⟩ (.bool true)).drew w') := fun w1 k1 => by
    obtain ⟨G1, h1, s1⟩ := (h.nil k1).donned
    obtain ⟨G0, hw1, _, hvia⟩ := (h1.nil ((Keep.refl Nil _).drew)).via
    exact ⟨G1, G0, (Stp.of_nil k1 _).trans s1, h1, hw1, hvia⟩
  have HPUT := Hid.intro_ hput
  clear HX hput
  unfold badRoot at hr
  by_cases hz : q.1 = 0
  all_goals
    first | rw [if_pos hz] at HXX | rw [if_neg hz] at HXX
    have hz1 : (q.1 == 0) = decide (q.1 = 0) := by by_cases h : q.1 = 0 <;> simp [h]
    first | rw [decide_eq_true hz] at hz1 | rw [decide_eq_false hz] at hz1
    have hqq' := Hid.intro_ hqq
    have hpp' := Hid.intro_ hpp
    have hval := Hid.intro_ (show (endRec y root x.count).val = .agg #[.int .u64 18446744073709551615, .int .u64 y.vars, .int .u64 root, .int .u64 x.count] from rfl)
    clear hqq hpp hz
    cases hs : y.some_
    · rw [hs] at c5 hr
      have hl : sF root = true := by simpa using hr
      have hlf := leaf_any root w
      rw [hl] at hlf
      rw [hd] at c7
      rw [hq] at c6
      clear hd hq hr hl hs
      go_enter Tryz.func65, Tryz.ntmps65
      go_wp2_with (go_at_call 94; refine hlf.mono ?_; rintro e w' ⟨rfl, hw⟩; obtain rfl := hw.symm)

      obtain ⟨G1, G0, S1, H1, HW1, HV⟩ := HPUT.out w (Keep.refl _ _)
      generalize w.setCell ⟨bb, 7, none⟩ (.bool true) = X at *
      have x0 : X.cell? ⟨bb, 0, none⟩ = some (.pointer (some ⟨b, 0, none⟩)) := H1.out.blk.at_ 0
      have x1 : X.cell? ⟨bb, 1, none⟩ = some (.int .i64 y.vars) := H1.out.blk.at_ 1
      have hP := put_any_w c _ b G0 s x (endRec y root x.count) HW1.out hlen hero (by omega) hcn
      rw [← hqq', hval] at hP
      have HP := Hid.intro_ hP
      clear hP
      go_still_tail 17, (by kernel_rfl)
      still_call (count_wr c _ b G0 s x HW1.out)
      repeat still_step
      refine wpStill_nil ?_
      change wpList _ _ _ _ _ X.drew
      go_wp2_with fail
      refine HP.out.mono ?_
      rintro e w3 ⟨rfl, ht⟩
      obtain ⟨G2, h2, s2⟩ := HV.out _ _ _ ht
      obtain ⟨G3, hw3, _, hvia3⟩ := h2.via
      have S2 := Hid.intro_ s2
      have hC := close_any_w c _ b G3 q.2.1 q.2.2 hw3 (by omega)
      rw [← hpp'] at hC
      have HC := Hid.intro_ hC
      have e0' : w3.cell? ⟨bb, 0, none⟩ = some (.pointer (some ⟨b, 0, none⟩)) := h2.blk.at_ 0
      clear hC s2
      go_wp2_with fail
      refine HC.out.mono ?_
      rintro e w4 ⟨rfl, ht4⟩
      obtain ⟨G4, h4, s4⟩ := hvia3 _ _ _ ht4
      have S4 := Hid.intro_ s4
      clear s4
      go_wp2_with fail
      go_ret
      rw [HXX.out]
      refine ⟨rfl, G4, h4, ((S1.out.then_nil ((Keep.refl Nil _).drew)).trans S2.out).trans S4.out⟩
    · rw [hs] at c5 hr
      have he : root = y.last.self ∧ sI y.last.self = 0 := by simpa using hr
      have hf := first_any y.last.self y.last.low y.last.high hok.a w
      rw [show (sI y.last.self == 0) = true by simpa using he.2] at hf
      unfold ndV at hf
      have q0 : ((root : Int) != (y.last.self : Int)) = false := by rw [he.1]; simp
      rw [hd] at c7
      rw [hq] at c6
      clear hd hq hr hs he
      go_enter Tryz.func65, Tryz.ntmps65
      go_wp2_with (go_at_call 134; refine hf.mono ?_; rintro e w1 ⟨rfl, k1⟩
                   have b1 := h.blk.keep k1 (fun h => h)
                   have c0' : w1.cell? ⟨bb, 0, none⟩ = some (.pointer (some ⟨b, 0, none⟩)) := b1.at_ 0
                   have c1' : w1.cell? ⟨bb, 1, none⟩ = some (.int .i64 y.vars) := b1.at_ 1
                   have c7' : ∃ u, w1.cell? ⟨bb, 7, none⟩ = some u := ⟨_, b1.at_ 7⟩
                   obtain ⟨u7, c7'⟩ := c7'
                   have f7' := b1.fr 7)

      obtain ⟨G1, G0, S1, H1, HW1, HV⟩ := HPUT.out w1 k1
      generalize w1.setCell ⟨bb, 7, none⟩ (.bool true) = X at *
      have x0 : X.cell? ⟨bb, 0, none⟩ = some (.pointer (some ⟨b, 0, none⟩)) := H1.out.blk.at_ 0
      have x1 : X.cell? ⟨bb, 1, none⟩ = some (.int .i64 y.vars) := H1.out.blk.at_ 1
      have hP := put_any_w c _ b G0 s x (endRec y root x.count) HW1.out hlen hero (by omega) hcn
      rw [← hqq', hval] at hP
      have HP := Hid.intro_ hP
      clear hP
      go_still_tail 17, (by kernel_rfl)
      still_call (count_wr c _ b G0 s x HW1.out)
      repeat still_step
      refine wpStill_nil ?_
      change wpList _ _ _ _ _ X.drew
      go_wp2_with fail
      refine HP.out.mono ?_
      rintro e w3 ⟨rfl, ht⟩
      obtain ⟨G2, h2, s2⟩ := HV.out _ _ _ ht
      obtain ⟨G3, hw3, _, hvia3⟩ := h2.via
      have S2 := Hid.intro_ s2
      have hC := close_any_w c _ b G3 q.2.1 q.2.2 hw3 (by omega)
      rw [← hpp'] at hC
      have HC := Hid.intro_ hC
      have e0' : w3.cell? ⟨bb, 0, none⟩ = some (.pointer (some ⟨b, 0, none⟩)) := h2.blk.at_ 0
      clear hC s2
      go_wp2_with fail
      refine HC.out.mono ?_
      rintro e w4 ⟨rfl, ht4⟩
      obtain ⟨G4, h4, s4⟩ := hvia3 _ _ _ ht4
      have S4 := Hid.intro_ s4
      clear s4
      go_wp2_with fail
      go_ret
      rw [HXX.out]
      refine ⟨rfl, G4, h4, ((S1.out.then_nil ((Keep.refl Nil _).drew)).trans S2.out).trans S4.out⟩
end
end Go.Proofs.YtadipinnbehhhaaGreatDoor
