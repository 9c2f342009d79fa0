/-
  Sorter.Bound and the reference's Bound answer alike: the walks of 'up' (twice), of bits.Mul64 and of both Bounds. Nothing is left out.
-/
import Derived.Test.YtbenihibdfdebaaProg
import Derived.WalkKit
import Derived.ProofKit
import Derived.OpenShut
import Derived.Deep.LoopGhost
import Derived.Shelf.Bits.Mul64
namespace Go.Proofs.Ytbenihibdfdebaa
open Go.RowKit
set_option linter.unusedVariables false

theorem wrapIn (n : Int) (h : -9223372036854775808 ≤ n ∧ n ≤ 9223372036854775807) : wrap64 n = n := by unfold wrap64; omega

def upN (a b : Nat) : Nat := a / b + min (a % b) 1

theorem upN_le (a b : Nat) (hb : 1 ≤ b) : upN a b ≤ a := by
  unfold upN
  have h1 := Nat.div_add_mod a b
  have h2 := Nat.mod_lt a (show 0 < b by omega)
  have h3 : a / b ≤ b * (a / b) := Nat.le_mul_of_pos_left _ (by omega)
  omega

theorem upN_lt (a b : Nat) (hb : 2 ≤ b) (ha : 2 ≤ a) : upN a b < a := by
  unfold upN
  have h1 := Nat.div_add_mod a b
  have h2 := Nat.mod_lt a (show 0 < b by omega)
  have h3 : 2 * (a / b) ≤ b * (a / b) := Nat.mul_le_mul_right _ hb
  rcases Nat.lt_or_ge (a / b) 1 with hq | hq
  · have h0 : a / b = 0 := by omega
    rw [h0] at h1 h3 ⊢
    omega
  · omega

def steps : Nat → Nat → Nat → Nat
  | 0, _, _ => 0
  | n + 1, f, r => if r ≤ 1 then 0 else 1 + steps n f (upN r f)

theorem steps_le (n f r : Nat) : steps n f r ≤ n := by
  induction n generalizing r with
  | zero => exact Nat.le_refl _
  | succ n ih =>
    rw [steps]
    split
    · omega
    · have := ih (upN r f); omega

theorem steps_done (n f r : Nat) (h : r ≤ 1) : steps n f r = 0 := by
  cases n with
  | zero => rfl
  | succ n => rw [steps, if_pos h]

theorem steps_more (n f r : Nat) (h : ¬ r ≤ 1) : steps (n + 1) f r = 1 + steps n f (upN r f) := by rw [steps, if_neg h]

theorem upN_half (a b : Nat) (hb : 2 ≤ b) : upN a b ≤ a / 2 + 1 := by
  unfold upN
  have h := Nat.div_le_div_left hb (show 0 < 2 by omega) (a := a)
  omega

theorem up_eq (a b : Nat) (hb : 1 ≤ b) (ha : a < 9223372036854775808) (x : Int) (hx : x = (if a % b = 0 then 0 else 1)) :
    wrap64 (wrap64 ((a : Int) / (b : Int)) + x) = ((a / b + min (a % b) 1 : Nat) : Int) := by
  have hle := upN_le a b hb
  unfold upN at hle
  have hq : ((a : Int) / (b : Int)) = ((a / b : Nat) : Int) := rfl
  rw [hq]
  generalize a / b = q at *
  have e1 : wrap64 (q : Int) = q := wrapIn _ (by omega)
  rw [e1, hx]
  split
  · rw [wrapIn _ (by omega)]; omega
  · rw [wrapIn _ (by omega)]; omega

theorem up6 (a b : Nat) (hb : 1 ≤ b) (ha : a < 9223372036854775808) (hb' : b < 9223372036854775808) (w : World) :
    Calls Try.prog 6 #[.int .i64 a, .int .i64 b] w fun e w' => e = .returned (.int .i64 (upN a b)) ∧ Grown w w' := by
  have hb0 : ¬ ((b : Int) = 0) := by omega
  go_enter Try.func6, Try.ntmps6
  go_wp2
  go_region
  go_wp2
  all_goals go_ret
  all_goals refine ⟨?_, (Grown.refl _).drew⟩
  · have h1 : (1 : Int) < (a : Int) % (b : Int) ∨ (1 : Int) ≤ (a : Int) % (b : Int) := by first | exact Or.inl (by assumption) | exact Or.inr (by assumption)
    have h2 : ((a : Int) % (b : Int)) = ((a % b : Nat) : Int) := rfl
    exact congrArg (fun z => Ending.returned (.int .i64 z)) (up_eq a b hb ha 1 (by rw [if_neg (by omega)]))
  · have h1 : (a : Int) % (b : Int) ≤ (1 : Int) ∨ (a : Int) % (b : Int) < (1 : Int) := by first | exact Or.inl (by assumption) | exact Or.inr (by assumption)
    have h2 : ((a : Int) % (b : Int)) = ((a % b : Nat) : Int) := rfl
    refine congrArg (fun z => Ending.returned (.int .i64 z)) (up_eq a b hb ha _ ?_)
    rw [h2] at h1 ⊢
    split <;> omega

theorem up8 (a b : Nat) (hb : 1 ≤ b) (ha : a < 9223372036854775808) (hb' : b < 9223372036854775808) (w : World) :
    Calls Try.prog 8 #[.int .i64 a, .int .i64 b] w fun e w' => e = .returned (.int .i64 (upN a b)) ∧ Grown w w' := by
  have hb0 : ¬ ((b : Int) = 0) := by omega
  have h2 : ((a : Int) % (b : Int)) = ((a % b : Nat) : Int) := rfl
  have h3 := up_eq a b hb ha 0
  by_cases hz : a % b = 0
  · have h4 : ¬ (0 : Int) < (a : Int) % (b : Int) := by omega
    clear h2
    go_enter Try.func8, Try.ntmps8
    go_wp2
    go_ret
    refine ⟨?_, Grown.refl _⟩
    refine congrArg (fun z => Ending.returned (.int .i64 z)) ?_
    have := h3 (by rw [if_pos hz])
    rw [Int.add_zero, wrapIn (wrap64 _) (by unfold wrap64; omega)] at this
    exact this
  · have h4 : (0 : Int) < (a : Int) % (b : Int) := by omega
    clear h2
    go_enter Try.func8, Try.ntmps8
    go_wp2
    go_ret
    refine ⟨?_, Grown.refl _⟩
    exact congrArg (fun z => Ending.returned (.int .i64 z)) (up_eq a b hb ha 1 (by rw [if_neg hz]))

set_option maxHeartbeats 1000000 in
theorem mul7 (x y : Nat) (hx : x < 18446744073709551616) (hy : y < 18446744073709551616) (w : World) :
    Calls Try.prog 7 #[.int .u64 x, .int .u64 y] w fun e w' => e = .returned (.tuple #[.int .u64 ((x * y / 18446744073709551616 : Nat) : Int), .int .u64 ((x * y % 18446744073709551616 : Nat) : Int)]) ∧ w' = w := by
  obtain ⟨bd, bt, bw, hhi⟩ := Lib.mul64_hi x y hx hy
  have ba := Lib.half_mul_le (a := x / 4294967296) (b := y / 4294967296) (by omega) (by omega)
  have bb := Lib.half_mul_le (a := x / 4294967296) (b := y % 4294967296) (by omega) (by omega)
  have bc := Lib.half_mul_le (a := x % 4294967296) (b := y / 4294967296) (by omega) (by omega)
  have ba' : x / 4294967296 * (y / 4294967296) < 18446744073709551616 := by omega
  have bb' : x / 4294967296 * (y % 4294967296) < 18446744073709551616 := by omega
  have bc' : x % 4294967296 * (y / 4294967296) < 18446744073709551616 := by omega
  have bh1 : x / 4294967296 * (y / 4294967296) + (x / 4294967296 * (y % 4294967296) + x % 4294967296 * (y % 4294967296) / 4294967296) / 4294967296 < 18446744073709551616 := by omega
  have bh : x / 4294967296 * (y / 4294967296) + (x / 4294967296 * (y % 4294967296) + x % 4294967296 * (y % 4294967296) / 4294967296) / 4294967296 + ((x / 4294967296 * (y % 4294967296) + x % 4294967296 * (y % 4294967296) / 4294967296) % 4294967296 + x % 4294967296 * (y / 4294967296)) / 4294967296 < 18446744073709551616 := by omega
  go_enter Try.func7, Try.ntmps7
  go_wp2
  simp only [Mul64.maskN x hx, Mul64.maskN y hy, Mul64.divN, Mul64.mulN, Mul64.addN, Mul64.wrapN _ bd, Mul64.wrapN _ bb', Mul64.wrapN _ bt, Mul64.maskN _ bt, Mul64.wrapN _ bc', Mul64.wrapN _ bw, Mul64.wrapN _ ba', Mul64.wrapN _ bh1, Mul64.wrapN _ bh, Mul64.wrapM (x * y)]
  rw [hhi]
  go_ret2
  exact ⟨rfl, rfl⟩

/-- What both Bounds answer. -/
def bnd (n k s : Int) : Int :=
  if n ≤ 0 ∨ k < 1 ∨ 2047 < k ∨ s < 4 * k then 0
  else
    let a := n.toNat; let b := k.toNat; let c := s.toNat
    let p := steps (upN a ((c / b - 2) * b)) (c / b - 1) (upN a ((c / b - 2) * b))
    if 9223372036854775807 < upN a b * (p + 1) then 9223372036854775807 else ((upN a b * (p + 1) : Nat) : Int)

theorem bound4_bad (n k s : Int) (h : n ≤ 0 ∨ k < 1 ∨ 2047 < k ∨ s < 4 * k) (w : World) :
    Calls Try.prog 4 #[.int .i64 n, .int .i64 k, .int .i64 s] w fun e w' => e = .returned (.tuple #[.int .i64 0, .int .i64 0]) ∧ Grown w w' := by
  by_cases h1 : n ≤ 0
  · go_enter Try.func4, Try.ntmps4
    go_wp2
    go_ret2
    exact ⟨rfl, Grown.refl _⟩
  by_cases h2 : k < 1
  · go_enter Try.func4, Try.ntmps4
    go_wp2
    go_ret2
    exact ⟨rfl, Grown.refl _⟩
  by_cases h3 : 2047 < k
  · go_enter Try.func4, Try.ntmps4
    go_wp2
    go_ret2
    exact ⟨rfl, Grown.refl _⟩
  have h4 : s < 4 * k := by omega
  clear h
  go_enter Try.func4, Try.ntmps4
  go_wp2
  go_ret2
  exact ⟨rfl, Grown.refl _⟩

theorem bound5_bad (n k s : Int) (h : n ≤ 0 ∨ k < 1 ∨ 2047 < k ∨ s < 4 * k) (w : World) :
    Calls Try.prog 5 #[.int .i64 n, .int .i64 k, .int .i64 s] w fun e w' => e = .returned (.tuple #[.int .i64 0, .int .i64 0]) ∧ Grown w w' := by
  by_cases h1 : n ≤ 0
  · go_enter Try.func5, Try.ntmps5
    go_wp2
    go_ret2
    exact ⟨rfl, Grown.refl _⟩
  by_cases h2 : k < 1
  · go_enter Try.func5, Try.ntmps5
    go_wp2
    go_ret2
    exact ⟨rfl, Grown.refl _⟩
  by_cases h3 : 2047 < k
  · go_enter Try.func5, Try.ntmps5
    go_wp2
    go_ret2
    exact ⟨rfl, Grown.refl _⟩
  have h4 : s < 4 * k := by omega
  clear h
  go_enter Try.func5, Try.ntmps5
  go_wp2
  go_ret2
  exact ⟨rfl, Grown.refl _⟩

theorem fan_eq (b c : Nat) (hb : 1 ≤ b) (hd4 : 4 ≤ c / b) (hsm : (c / b - 2) * b ≤ c) (hc' : c < 9223372036854775808) :
    wrap64 (((c : Int) / (b : Int) - 2) * (b : Int)) = (((c / b - 2) * b : Nat) : Int) := by
  have hd : ((c : Int) / (b : Int)) = ((c / b : Nat) : Int) := rfl
  rw [hd]
  generalize c / b = q at *
  have : ((q : Int) - 2) = ((q - 2 : Nat) : Int) := by omega
  rw [this, ← Int.natCast_mul]
  exact wrapIn _ (by omega)

theorem Grown.trans {a b c : World} (h : Grown a b) (k : Grown b c) : Grown a c :=
  ⟨World.keptBut_trans h.1 k.1, fun x => (k.2.1 x).trans (h.2.1 x), Nat.le_trans h.2.2 k.2.2⟩

theorem hidden {p : Prop} (h : p) : Hid p := by unfold Hid; exact h

theorem bnd_good (a b c : Nat) (ha : 1 ≤ a) (hb : 1 ≤ b) (hb' : b ≤ 2047) (hc : 4 * b ≤ c) :
    bnd a b c = (if 9223372036854775807 < upN a b * (steps (upN a ((c / b - 2) * b)) (c / b - 1) (upN a ((c / b - 2) * b)) + 1) then 9223372036854775807 else ((upN a b * (steps (upN a ((c / b - 2) * b)) (c / b - 1) (upN a ((c / b - 2) * b)) + 1) : Nat) : Int)) := by
  unfold bnd
  rw [if_neg (by omega)]
  rfl

theorem bound4_good (a b c : Nat) (ha : 1 ≤ a) (ha' : a < 9223372036854775808) (hb : 1 ≤ b) (hb' : b ≤ 2047) (hc : 4 * b ≤ c) (hc' : c < 9223372036854775808) (w : World) :
    Calls Try.prog 4 #[.int .i64 a, .int .i64 b, .int .i64 c] w fun e w' => e = .returned (.tuple #[.int .i64 (bnd a b c), .int .i64 (bnd a b c)]) ∧ Grown w w' := by
  have h1 : ¬ (a : Int) ≤ 0 := by omega
  have h2 : ¬ (b : Int) < 1 := by omega
  have h3 : ¬ (2047 : Int) < b := by omega
  have h4 : ¬ (c : Int) < 4 * (b : Int) := by omega
  have hb0 : ¬ ((b : Int) = 0) := by omega
  have hd4 : 4 ≤ c / b := (Nat.le_div_iff_mul_le (by omega)).2 hc
  have hdm : (c / b) * b ≤ c := Nat.div_mul_le_self c b
  have hdc : c / b ≤ c := Nat.div_le_self c b
  have hsm : (c / b - 2) * b ≤ c := Nat.le_trans (Nat.mul_le_mul_right _ (by omega)) hdm
  have hsb : 2 ≤ (c / b - 2) * b := by have := Nat.mul_le_mul (show 2 ≤ c / b - 2 by omega) hb; omega
  have hR := upN_le a ((c / b - 2) * b) (by omega)
  have hR2 := upN_half a ((c / b - 2) * b) hsb
  have hB := upN_le a b hb
  have c1 := up6 a b hb ha' (by omega)
  have c2 := up6 a ((c / b - 2) * b) (by omega) ha' (by omega)
  have e3 := fan_eq b c hb hd4 hsm hc'
  rw [bnd_good a b c ha hb hb' hc]
  generalize hR0 : upN a ((c / b - 2) * b) = R0 at *
  generalize hp : steps R0 (c / b - 1) R0 = p at *
  generalize hBe : upN a b = B at *
  generalize hAe : (if 9223372036854775807 < B * (p + 1) then 9223372036854775807 else ((B * (p + 1) : Nat) : Int)) = A
  have hA := hidden hAe
  clear hAe
  go_enter Try.func4, Try.ntmps4
  go_wp2_with fail
  refine (c1 w).mono ?_
  rintro e w1 ⟨rfl, hw1⟩
  go_wp2_with fail
  rw [e3]
  refine (c2 w1).mono ?_
  rintro e w2 ⟨rfl, hw2⟩
  clear c1 c2
  go_wp2_with fail
  go_loopg [9, 11] R0 (fun n r q wr => ∃ R P : Nat, r = .int .i64 R ∧ q = .int .i64 P ∧ R ≤ n ∧ n + P ≤ R0 ∧ P + steps n (c / b - 1) R = p ∧ Grown w wr)
  case atStart => exact ⟨R0, 0, rfl, rfl, Nat.le_refl _, Nat.le_refl _, by rw [Nat.zero_add]; exact hp, Grown.trans hw1 hw2⟩
  case round =>
    obtain ⟨R, P, rfl, rfl, hRn, hnP, hst, hg⟩ := hrel
    by_cases hr : R ≤ 1
    · have hr' : ¬ (1 : Int) < (R : Int) := by omega
      rw [steps_done _ _ _ hr, Nat.add_zero] at hst
      obtain rfl : P = p := hst
      have c7 := mul7 B (P + 1) (by omega) (by omega)
      go_wp2_with fail
      refine (c7 wr).mono ?_
      rintro e w3 ⟨rfl, rfl⟩
      by_cases hbig : 9223372036854775807 < B * (P + 1)
      · have hcond : (0 : Int) < ((B * (P + 1) / 18446744073709551616 : Nat) : Int) ∨ (9223372036854775807 : Int) < ((B * (P + 1) % 18446744073709551616 : Nat) : Int) := by omega
        obtain rfl : 9223372036854775807 = A := by have := hA.out; rwa [if_pos hbig] at this
        clear hA
        by_cases hh : (0 : Int) < ((B * (P + 1) / 18446744073709551616 : Nat) : Int)
        · generalize (B * (P + 1) / 18446744073709551616 : Nat) = hi at *
          generalize (B * (P + 1) % 18446744073709551616 : Nat) = lo at *
          clear hcond
          go_wp2
          go_ret2
          exact ⟨rfl, hg⟩
        · have hl : (9223372036854775807 : Int) < ((B * (P + 1) % 18446744073709551616 : Nat) : Int) := by omega
          generalize (B * (P + 1) / 18446744073709551616 : Nat) = hi at *
          generalize (B * (P + 1) % 18446744073709551616 : Nat) = lo at *
          clear hcond
          go_wp2
          go_ret2
          exact ⟨rfl, hg⟩
      · have hA2 := hidden (show ((B * (P + 1) : Nat) : Int) = A by have := hA.out; rwa [if_neg hbig] at this)
        clear hA
        have e0 : B * (P + 1) / 18446744073709551616 = 0 := by omega
        have e1 : B * (P + 1) % 18446744073709551616 = B * (P + 1) := by omega
        rw [e0, e1]
        generalize B * (P + 1) = z at *
        have hz : ¬ (9223372036854775807 : Int) < (z : Int) := by omega
        go_wp2
        go_ret2
        exact ⟨by rw [← hA2.out]; rfl, hg⟩
    · have hr' : (1 : Int) < (R : Int) := by omega
      have c3 : ∀ w, Calls Try.prog 6 #[.int .i64 R, .int .i64 ((c : Int) / (b : Int) - 1)] w fun e w' => e = .returned (.int .i64 (upN R (c / b - 1))) ∧ Grown w w' := by
        have hd : ((c : Int) / (b : Int)) = ((c / b : Nat) : Int) := rfl
        have ef : ((c : Int) / (b : Int) - 1) = ((c / b - 1 : Nat) : Int) := by
          rw [hd]; omega
        rw [ef]
        exact up6 R (c / b - 1) (by omega) (by omega) (by omega)
      have hlt := upN_lt R (c / b - 1) (by omega) (by omega)
      obtain ⟨m, rfl⟩ : ∃ m, gk = m + 1 := ⟨gk - 1, by omega⟩
      rw [steps_more _ _ _ hr] at hst
      go_wp2_with fail
      refine (c3 wr).mono ?_
      rintro e w3 ⟨rfl, hw3⟩
      go_wp2
      go_roundg m
      case measure => omega
      case rel => exact ⟨_, P + 1, rfl, by go_num, by omega, by omega, by omega, Grown.trans hg hw3⟩

theorem bound5_good (a b c : Nat) (ha : 1 ≤ a) (ha' : a < 9223372036854775808) (hb : 1 ≤ b) (hb' : b ≤ 2047) (hc : 4 * b ≤ c) (hc' : c < 9223372036854775808) (w : World) :
    Calls Try.prog 5 #[.int .i64 a, .int .i64 b, .int .i64 c] w fun e w' => e = .returned (.tuple #[.int .i64 (bnd a b c), .int .i64 (bnd a b c)]) ∧ Grown w w' := by
  have h1 : ¬ (a : Int) ≤ 0 := by omega
  have h2 : ¬ (b : Int) < 1 := by omega
  have h3 : ¬ (2047 : Int) < b := by omega
  have h4 : ¬ (c : Int) < 4 * (b : Int) := by omega
  have hb0 : ¬ ((b : Int) = 0) := by omega
  have hd4 : 4 ≤ c / b := (Nat.le_div_iff_mul_le (by omega)).2 hc
  have hdm : (c / b) * b ≤ c := Nat.div_mul_le_self c b
  have hdc : c / b ≤ c := Nat.div_le_self c b
  have hsm : (c / b - 2) * b ≤ c := Nat.le_trans (Nat.mul_le_mul_right _ (by omega)) hdm
  have hsb : 2 ≤ (c / b - 2) * b := by have := Nat.mul_le_mul (show 2 ≤ c / b - 2 by omega) hb; omega
  have hR := upN_le a ((c / b - 2) * b) (by omega)
  have hR2 := upN_half a ((c / b - 2) * b) hsb
  have hB := upN_le a b hb
  have c1 := up8 a b hb ha' (by omega)
  have c2 := up8 a ((c / b - 2) * b) (by omega) ha' (by omega)
  have e3 := fan_eq b c hb hd4 hsm hc'
  rw [bnd_good a b c ha hb hb' hc]
  generalize hR0 : upN a ((c / b - 2) * b) = R0 at *
  generalize hp : steps R0 (c / b - 1) R0 = p at *
  generalize hBe : upN a b = B at *
  generalize hAe : (if 9223372036854775807 < B * (p + 1) then 9223372036854775807 else ((B * (p + 1) : Nat) : Int)) = A
  have hA := hidden hAe
  clear hAe
  go_enter Try.func5, Try.ntmps5
  go_wp2_with fail
  refine (c1 w).mono ?_
  rintro e w1 ⟨rfl, hw1⟩
  go_wp2_with fail
  rw [e3]
  refine (c2 w1).mono ?_
  rintro e w2 ⟨rfl, hw2⟩
  clear c1 c2
  go_wp2_with fail
  go_loopg [11, 12] R0 (fun n r q wr => ∃ R P : Nat, r = .int .i64 R ∧ q = .int .i64 P ∧ R ≤ n ∧ n + P ≤ R0 ∧ P + steps n (c / b - 1) R = p ∧ Grown w wr)
  case atStart => exact ⟨R0, 0, rfl, rfl, Nat.le_refl _, Nat.le_refl _, by rw [Nat.zero_add]; exact hp, Grown.trans hw1 hw2⟩
  case round =>
    obtain ⟨R, P, rfl, rfl, hRn, hnP, hst, hg⟩ := hrel
    by_cases hr : R ≤ 1
    · have hr' : ¬ (1 : Int) < (R : Int) := by omega
      rw [steps_done _ _ _ hr, Nat.add_zero] at hst
      obtain rfl : P = p := hst
      have hP0 : ¬ (1 + (P : Int) = 0) := by omega
      have hdiv : ((9223372036854775807 : Int) / (1 + (P : Int))) = ((9223372036854775807 / (P + 1) : Nat) : Int) := by
        have : (1 + (P : Int)) = ((P + 1 : Nat) : Int) := by omega
        rw [this]; rfl
      have hcmp : B * (P + 1) ≤ 9223372036854775807 ↔ B ≤ 9223372036854775807 / (P + 1) := (Nat.le_div_iff_mul_le (by omega)).symm
      by_cases hbig : 9223372036854775807 < B * (P + 1)
      · obtain rfl : 9223372036854775807 = A := by have := hA.out; rwa [if_pos hbig] at this
        clear hA
        have hgt : (9223372036854775807 : Int) / (1 + (P : Int)) < (B : Int) := by rw [hdiv]; omega
        clear hdiv hcmp
        go_wp2
        go_ret2
        exact ⟨rfl, hg⟩
      · have hA2 := hidden (show ((B * (P + 1) : Nat) : Int) = A by have := hA.out; rwa [if_neg hbig] at this)
        clear hA
        have hgt : ¬ (9223372036854775807 : Int) / (1 + (P : Int)) < (B : Int) := by rw [hdiv]; omega
        have hmul : wrap64 ((B : Int) * (1 + (P : Int))) = ((B * (P + 1) : Nat) : Int) := by
          have : (1 + (P : Int)) = ((P + 1 : Nat) : Int) := by omega
          rw [this, ← Int.natCast_mul]
          exact wrapIn _ (by omega)
        clear hdiv hcmp
        go_wp2
        go_ret2
        exact ⟨by rw [← hA2.out, Int.natCast_mul, Int.natCast_add]; rfl, hg⟩
    · have hr' : (1 : Int) < (R : Int) := by omega
      have c3 : ∀ w, Calls Try.prog 8 #[.int .i64 R, .int .i64 ((c : Int) / (b : Int) - 1)] w fun e w' => e = .returned (.int .i64 (upN R (c / b - 1))) ∧ Grown w w' := by
        have hd : ((c : Int) / (b : Int)) = ((c / b : Nat) : Int) := rfl
        have ef : ((c : Int) / (b : Int) - 1) = ((c / b - 1 : Nat) : Int) := by
          rw [hd]; omega
        rw [ef]
        exact up8 R (c / b - 1) (by omega) (by omega) (by omega)
      have hlt := upN_lt R (c / b - 1) (by omega) (by omega)
      obtain ⟨m, rfl⟩ : ∃ m, gk = m + 1 := ⟨gk - 1, by omega⟩
      rw [steps_more _ _ _ hr] at hst
      go_wp2_with fail
      refine (c3 wr).mono ?_
      rintro e w3 ⟨rfl, hw3⟩
      go_wp2
      go_roundg m
      case measure => omega
      case rel => exact ⟨_, P + 1, rfl, by go_num, by omega, by omega, by omega, Grown.trans hg hw3⟩

theorem bound4 (n k s : Int) (wn : (Lit.int .i64 n).wf = true) (wk : (Lit.int .i64 k).wf = true) (ws : (Lit.int .i64 s).wf = true) (w : World) :
    Calls Try.prog 4 #[.int .i64 n, .int .i64 k, .int .i64 s] w fun e w' => e = .returned (.tuple #[.int .i64 (bnd n k s), .int .i64 (bnd n k s)]) ∧ Grown w w' := by
  by_cases h : n ≤ 0 ∨ k < 1 ∨ 2047 < k ∨ s < 4 * k
  · rw [show bnd n k s = 0 by unfold bnd; rw [if_pos h]]
    exact bound4_bad n k s h w
  · have bn := bounds_i64 wn; have bs := bounds_i64 ws
    obtain ⟨a, rfl⟩ : ∃ a : Nat, n = a := ⟨n.toNat, by omega⟩
    obtain ⟨b, rfl⟩ : ∃ b : Nat, k = b := ⟨k.toNat, by omega⟩
    obtain ⟨c, rfl⟩ : ∃ c : Nat, s = c := ⟨s.toNat, by omega⟩
    exact bound4_good a b c (by omega) (by omega) (by omega) (by omega) (by omega) (by omega) w

theorem bound5 (n k s : Int) (wn : (Lit.int .i64 n).wf = true) (wk : (Lit.int .i64 k).wf = true) (ws : (Lit.int .i64 s).wf = true) (w : World) :
    Calls Try.prog 5 #[.int .i64 n, .int .i64 k, .int .i64 s] w fun e w' => e = .returned (.tuple #[.int .i64 (bnd n k s), .int .i64 (bnd n k s)]) ∧ Grown w w' := by
  by_cases h : n ≤ 0 ∨ k < 1 ∨ 2047 < k ∨ s < 4 * k
  · rw [show bnd n k s = 0 by unfold bnd; rw [if_pos h]]
    exact bound5_bad n k s h w
  · have bn := bounds_i64 wn; have bs := bounds_i64 ws
    obtain ⟨a, rfl⟩ : ∃ a : Nat, n = a := ⟨n.toNat, by omega⟩
    obtain ⟨b, rfl⟩ : ∃ b : Nat, k = b := ⟨k.toNat, by omega⟩
    obtain ⟨c, rfl⟩ : ∃ c : Nat, s = c := ⟨s.toNat, by omega⟩
    exact bound5_good a b c (by omega) (by omega) (by omega) (by omega) (by omega) (by omega) w

theorem law3 (a0 : Int) (a1 : Int) (a2 : Int) (w0 : (Lit.int .i64 a0).wf = true) (w1 : (Lit.int .i64 a1).wf = true) (w2 : (Lit.int .i64 a2).wf = true) (w : World) :
    Calls Try.prog 3 #[.int .i64 a0, .int .i64 a1, .int .i64 a2] w fun e w' => e = .returned (.bool true) ∧ Grown w w' := by
  have c4 := bound4 a0 a1 a2 w0 w1 w2
  have c5 := bound5 a0 a1 a2 w0 w1 w2
  generalize bnd a0 a1 a2 = r at *
  have e4 : ∀ args w, (callFunc 4 args).run Try.prog w = .ok (.enter 4 args) w := enters_of Try.func4 (by kernel_rfl) rfl
  have e5 : ∀ args w, (callFunc 5 args).run Try.prog w = .ok (.enter 5 args) w := enters_of Try.func5 (by kernel_rfl) rfl
  go_enter Try.func3, Try.ntmps3
  go_wp2_with fail
  refine (c4 w).mono ?_
  rintro e x1 ⟨rfl, hx1⟩
  go_wp2_with fail
  refine (c5 x1).mono ?_
  rintro e x2 ⟨rfl, hx2⟩
  go_wp2
  go_ret
  exact ⟨rfl, Grown.trans hx1 hx2⟩

end Go.Proofs.Ytbenihibdfdebaa
