/- TallyCubes: the references' pairs: below, rank. -/
import Derived.Test.YtadipinnbehhhaaGreatDoorCubesRowAQ
namespace Go.Proofs.YtadipinnbehhhaaGreatDoor
open Go.RowKit

def prV (a : P2) : Value := .agg #[.int .u64 (a.1 : Int), .int .u64 (a.2 : Int)]
def prCells (l : List P2) : List Value := l.flatMap fun a => [.int .u64 (a.1 : Int), .int .u64 (a.2 : Int)]
theorem prCells_app (a b : List P2) : prCells (a ++ b) = prCells a ++ prCells b := by simp [prCells]
theorem prCells_len : ∀ l : List P2, (prCells l).length = l.length * 2
  | [] => rfl
  | n :: l => by
    have e : prCells (n :: l) = .int .u64 (n.1 : Int) :: .int .u64 (n.2 : Int) :: prCells l := rfl
    rw [e]
    simp only [List.length_cons, prCells_len l]
    omega
theorem prCells_at : ∀ (l : List P2) (k : Nat) (n : P2), l[k]? = some n → (prCells l)[k * 2]? = some (.int .u64 (n.1 : Int)) ∧ (prCells l)[k * 2 + 1]? = some (.int .u64 (n.2 : Int))
  | [], k, n, h => by simp at h
  | q :: l, 0, n, h => by
    simp only [List.getElem?_cons_zero, Option.some.injEq] at h
    subst h
    exact ⟨rfl, rfl⟩
  | q :: l, k + 1, n, h => by
    have ih := prCells_at l k n (by simpa using h)
    have e : prCells (q :: l) = .int .u64 (q.1 : Int) :: .int .u64 (q.2 : Int) :: prCells l := rfl
    rw [e, show (k + 1) * 2 = k * 2 + 1 + 1 by omega, show k * 2 + 1 + 1 + 1 = (k * 2 + 1) + 1 + 1 by omega]
    simpa using ih
theorem pr_at {w : World} {A : Option Addr} {l : List P2} (h : Rd w A (prCells l)) {k : Nat} {n : P2} (hn : l[k]? = some n) (hs : Spotless A) :
    ∃ g o, A = some ⟨g, o, none⟩ ∧ w.cell? ⟨g, o + k * 2, none⟩ = some (.int .u64 (n.1 : Int)) ∧ w.cell? ⟨g, o + k * 2 + 1, none⟩ = some (.int .u64 (n.2 : Int)) := by
  obtain ⟨h0, h1⟩ := prCells_at l k n hn
  obtain ⟨⟨g, o, sp⟩, rfl, c0⟩ := h _ _ h0
  obtain rfl : sp = none := hs _ rfl
  obtain ⟨a1, e1, c1⟩ := h _ _ h1
  injection e1 with e1
  subst e1
  rw [add_at] at c0 c1
  exact ⟨g, o, rfl, c0, by rw [← Nat.add_assoc] at c1; exact c1⟩
theorem info_pair : (Tryz.prog.info? 331).map (fun i => (i.zero, i.size, i.bytes)) = some (some (.agg #[.int .u64 0, .int .u64 0]), 2, 16) := by kernel_rfl
set_option maxRecDepth 100000 in
set_option maxHeartbeats 1000000 in
theorem below_any (a b : P2) (w : World) : Calls Tryz.prog 259 #[prV a, prV b] w fun e w' => e = .returned (.bool (decide (P2.lt a b))) ∧ Keep Nil w w' := by
  obtain ⟨a1, a2⟩ := a
  obtain ⟨b1, b2⟩ := b
  unfold prV
  simp only
  rcases Nat.lt_trichotomy a1 b1 with h | h | h
  · have HF := Hid.intro_ (show decide (P2.lt (a1, a2) (b1, b2)) = true from decide_eq_true (.inl h))
    go_enter Tryz.func259, Tryz.ntmps259
    go_wp2_with fail
    go_ret
    exact ⟨by rw [HF.out] <;> rfl, ((Keep.refl Nil w).alloc _).alloc _⟩
  · subst h
    by_cases h2 : a2 < b2
    · have HF := Hid.intro_ (show decide (P2.lt (a1, a2) (a1, b2)) = true from decide_eq_true (.inr ⟨rfl, h2⟩))
      go_enter Tryz.func259, Tryz.ntmps259
      go_wp2_with fail
      go_ret
      exact ⟨by rw [HF.out] <;> rfl, ((Keep.refl Nil w).alloc _).alloc _⟩
    · have HF := Hid.intro_ (show decide (P2.lt (a1, a2) (a1, b2)) = false from decide_eq_false (by unfold P2.lt; simp only; omega))
      go_enter Tryz.func259, Tryz.ntmps259
      go_wp2_with fail
      go_ret
      exact ⟨by rw [HF.out] <;> rfl, ((Keep.refl Nil w).alloc _).alloc _⟩
  · have HF := Hid.intro_ (show decide (P2.lt (a1, a2) (b1, b2)) = false from decide_eq_false (by unfold P2.lt; simp only; omega))
    have h9 : ¬ a1 < b1 := by omega
    have q2 : ((a1 : Int) == (b1 : Int)) = false := by
      have : ¬ (a1 : Int) = (b1 : Int) := by omega
      simpa using this
    go_enter Tryz.func259, Tryz.ntmps259
    go_wp2_with fail
    go_ret
    exact ⟨by rw [HF.out] <;> rfl, ((Keep.refl Nil w).alloc _).alloc _⟩
set_option maxRecDepth 100000 in
set_option maxHeartbeats 4000000 in
theorem rank_any (A : Option Addr) (ca : Nat) (l : List P2) (x : P2) (k : Nat) (w : World) (h : Rd w A (prCells l)) (hs : Spotless A) (hl : l.length ≤ 1099511627776) (hr : RiseP l) (hk : l[k]? = some x) :
    Calls Tryz.prog 213 #[.slice A l.length ca, prV x] w fun e w' => e = .returned (.int .i64 k) ∧ Keep Nil w w' := by
  obtain ⟨N, hN⟩ : ∃ N, N = l.length := ⟨_, rfl⟩
  have hkl := (List.getElem?_eq_some_iff.1 hk).1
  rw [← hN] at hl hkl ⊢
  obtain ⟨g, o, hAe, _⟩ := pr_at h hk hs
  subst hAe
  obtain ⟨x1, x2⟩ := x
  have HR := Hid.intro_ h
  have HN := Hid.intro_ hN
  have HRI := Hid.intro_ hr
  have HK := Hid.intro_ hk
  have HS := Hid.intro_ hs
  obtain ⟨W0, hW0⟩ : ∃ W0, W0 = w.alloc (.cells #[.int .u64 (x1 : Int), .int .u64 (x2 : Int)] 331) := ⟨_, rfl⟩
  have HK0 := Hid.intro_ (show Keep Nil w W0 by rw [hW0]; exact (Keep.refl Nil w).alloc _)
  have HB0 := Hid.intro_ (show Blk W0 w.heap.size 331 #[.int .u64 (x1 : Int), .int .u64 (x2 : Int)] by rw [hW0]; exact Blk.new w _ _)
  unfold prV
  simp only
  clear h hN hr hk hs
  go_enter Tryz.func213, Tryz.ntmps213
  go_upto_region 1 with (fail)
  rw [← hW0]
  clear hW0
  go_wp2_with fail
  go_loopw [5, 6] (fun i j wr => ∃ (lo hi : Nat), i = .int .i64 lo ∧ j = .int .i64 hi ∧ lo ≤ k ∧ k ≤ hi ∧ hi ≤ N ∧ Hid (Keep Nil W0 wr)) (fun i j _ => (intOf j).toNat - (intOf i).toNat)
  case atStart => exact ⟨0, N, rfl, rfl, by omega, by omega, by omega, Hid.intro_ (Keep.refl _ _)⟩
  case round =>
    obtain ⟨lo, hi, rfl, rfl, h1, h2, h3, HKW⟩ := hrel
    by_cases hlt : lo < hi
    · have hc : (lo : Int) < (hi : Int) := by omega
      have hw1 : wrap64 ((lo : Int) + (hi : Int)) = (lo : Int) + (hi : Int) := wrap_low _ (by omega)
      obtain ⟨m, hm⟩ : ∃ m, m = (lo + hi) / 2 := ⟨_, rfl⟩
      have hm2 : ((lo : Int) + (hi : Int)) / 2 = (m : Int) := by omega
      obtain ⟨y, hy⟩ : ∃ y, l[m]? = some y := ⟨_, List.getElem?_eq_getElem (by have := HN.out; omega)⟩
      obtain ⟨g', o', e', p0, p1⟩ := pr_at ((HR.out.keep HK0.out (fun _ _ _ h => h)).keep HKW.out (fun _ _ _ h => h)) hy HS.out
      injection e' with e'
      injection e' with e1 e2
      subst e1 e2
      have bI := HB0.out.keep HKW.out (fun h => h)
      have c0 : wr.cell? ⟨w.heap.size, 0, none⟩ = some (.int .u64 (x1 : Int)) := bI.at_ 0
      have c1 : wr.cell? ⟨w.heap.size, 1, none⟩ = some (.int .u64 (x2 : Int)) := bI.at_ 1
      have hmN : (m : Int) < (N : Int) := by omega
      have hm0 : (0 : Int) ≤ (m : Int) := by omega
      have hmm : lo ≤ m ∧ m < hi := by omega
      have hw2 : wrap64 ((m : Int) + 1) = (m : Int) + 1 := wrap_low _ (by omega)
      have hlt2 : decide (P2.lt y (x1, x2)) = decide (m < k) := by
        obtain ⟨hml, em⟩ := List.getElem?_eq_some_iff.1 hy
        obtain ⟨hkl2, ek⟩ := List.getElem?_eq_some_iff.1 HK.out
        rcases Nat.lt_trichotomy m k with h4 | h4 | h4
        · have := List.pairwise_iff_getElem.1 HRI.out m k hml hkl2 h4
          rw [em, ek] at this
          rw [decide_eq_true this, decide_eq_true h4]
        · subst h4
          rw [hy] at HK
          have e := HK.out
          injection e with e
          rw [e, decide_eq_false (P2.irr _), decide_eq_false (by omega)]
        · have := List.pairwise_iff_getElem.1 HRI.out k m hkl2 hml h4
          rw [em, ek] at this
          rw [decide_eq_false (fun h => P2.irr _ (ltP h this)), decide_eq_false (by omega)]
      obtain ⟨y1, y2⟩ := y
      have hbl := below_any (y1, y2) (x1, x2) wr.drew
      rw [hlt2] at hbl
      unfold prV at hbl
      simp only at hbl p0 p1
      have HHM := Hid.intro_ (And.intro hmm (And.intro h1 (And.intro h2 h3)))
      clear bI hm hy hlt2 hmm
      by_cases hmk : m < k
      · rw [decide_eq_true hmk] at hbl
        have HBL := Hid.intro_ hbl
        have HMK := Hid.intro_ hmk
        clear hbl hmk
        go_wp2_with fail
        go_still_tail 5, (by kernel_rfl)
        change wpList _ _ _ _ _ wr.drew
        go_wp2_with fail
        refine HBL.out.mono ?_
        rintro e w3 ⟨rfl, k3⟩
        have K3 := Hid.intro_ (HKW.out.then_ ((Keep.refl Nil wr).drew.then_ k3))
        clear k3
        go_wp2_with fail
        go_roundw
        case rel => exact ⟨m + 1, hi, by go_num, rfl, HMK.out, h2, h3, K3⟩
        case measure => have := HHM.out; simp [intOf]; omega
      · rw [decide_eq_false hmk] at hbl
        have HBL := Hid.intro_ hbl
        have HMK := Hid.intro_ hmk
        clear hbl hmk
        go_wp2_with fail
        go_still_tail 5, (by kernel_rfl)
        change wpList _ _ _ _ _ wr.drew
        go_wp2_with fail
        refine HBL.out.mono ?_
        rintro e w3 ⟨rfl, k3⟩
        have K3 := Hid.intro_ (HKW.out.then_ ((Keep.refl Nil wr).drew.then_ k3))
        clear k3
        go_wp2_with fail
        go_roundw
        case rel => exact ⟨lo, m, rfl, rfl, h1, by have := HMK.out; omega, by have := HHM.out; omega, K3⟩
        case measure => have := HHM.out; simp [intOf]; omega
    · obtain rfl : lo = k := by omega
      obtain rfl : hi = lo := by omega
      go_wp2_with fail
      go_ret
      exact ⟨rfl, HK0.out.then_ HKW.out⟩
end Go.Proofs.YtadipinnbehhhaaGreatDoor
