/- Parts of the proof: FnW2 FnH FindD CubW TWalkP. -/
import Derived.Test.YtadipinnbehhhaaGreatDoorCubesRowAQ
import Derived.Test.YtadipinnbehhhaaGreatDoorCubesRowAO
import Derived.Test.YtadipinnbehhhaaGreatDoorCubesRowAE
import Derived.Test.YtadipinnbehhhaaGreatDoorCubesRowAP
namespace Go.Proofs.YtadipinnbehhhaaGreatDoor
open Go.RowKit

def fnV (f : FnN) (A : Option Addr) (ca : Nat) (B : Option Addr) (cb : Nat) : Value := .agg #[.int .i64 (f.n : Int), .slice A f.at_.length ca, .slice B f.bits.length cb]
structure FnAt (w : World) (f : FnN) (A B : Option Addr) : Prop where
  la : Rd w A (nats f.at_)
  sa : Spotless A
  lb : Rd w B (boolsV f.bits)
  sb : Spotless B
theorem FnAt.nil {w w' : World} {f : FnN} {A B : Option Addr} (h : FnAt w f A B) (k : Keep Nil w w') : FnAt w' f A B := ⟨h.la.keep k (fun _ _ _ h => h), h.sa, h.lb.keep k (fun _ _ _ h => h), h.sb⟩
theorem bool_at {w : World} {A : Option Addr} {l : List Bool} (h : Rd w A (boolsV l)) {k : Nat} {x : Bool} (hx : l[k]? = some x) (hs : Spotless A) :
    ∃ g o, A = some ⟨g, o, none⟩ ∧ w.cell? ⟨g, o + k, none⟩ = some (.bool x) := bl_at h hx hs
def plN (f : FnN) (x : Nat) : Int := match placeN f x with
  | some j => (j : Int)
  | none => -1
theorem place_yes {f : FnN} {x j : Nat} (h : f.at_[j]? = some x) (hn : ∀ i y, i < j → f.at_[i]? = some y → ¬ y = x) : plN f x = j := by
  obtain ⟨hj, e⟩ := List.getElem?_eq_some_iff.1 h
  have : placeN f x = some j := by
    unfold placeN
    rw [List.findIdx?_eq_some_iff_getElem]
    refine ⟨hj, by simp [e], fun i hi => ?_⟩
    have := hn i _ hi (List.getElem?_eq_getElem (by omega))
    simpa using this
  unfold plN
  rw [this]
theorem place_no {f : FnN} {x : Nat} (hn : ∀ i y, i < f.at_.length → f.at_[i]? = some y → ¬ y = x) : plN f x = -1 := by
  have : placeN f x = none := by
    unfold placeN
    rw [List.findIdx?_eq_none_iff]
    intro y hy
    obtain ⟨j, hj⟩ := List.getElem?_of_mem hy
    have := hn j y (List.getElem?_eq_some_iff.1 hj).1 hj
    simpa using this
  unfold plN
  rw [this]
set_option maxRecDepth 100000 in
set_option maxHeartbeats 4000000 in
theorem place_any (f : FnN) (A : Option Addr) (ca : Nat) (B : Option Addr) (cb : Nat) (x : Nat) (w : World) (h : FnAt w f A B) (hl : f.at_.length ≤ 16) :
    Calls Tryz.prog 291 #[fnV f A ca B cb, .int .i64 x] w fun e w' => e = .returned (.int .i64 (plN f x)) ∧ Keep Nil w w' := by
  obtain ⟨n, hn⟩ : ∃ n, n = f.n := ⟨_, rfl⟩
  obtain ⟨N, hN⟩ : ∃ N, N = f.at_.length := ⟨_, rfl⟩
  obtain ⟨M, hM⟩ : ∃ M, M = f.bits.length := ⟨_, rfl⟩
  obtain ⟨T, hT⟩ : ∃ T, T = plN f x := ⟨_, rfl⟩
  obtain ⟨W0, hW0⟩ : ∃ W0, W0 = w.alloc (.cells #[.int .i64 n, .slice A N ca, .slice B M cb] 226) := ⟨_, rfl⟩
  have HK0 := Hid.intro_ (show Keep Nil w W0 by rw [hW0]; exact (Keep.refl Nil w).alloc _)
  have hb0 : Blk W0 w.heap.size 226 #[.int .i64 n, .slice A N ca, .slice B M cb] := by rw [hW0]; exact Blk.new w _ _
  have c1 : W0.cell? ⟨w.heap.size, 1, none⟩ = some (.slice A N ca) := hb0.at_ 1
  have HR := Hid.intro_ (h.nil HK0.out)
  have HN := Hid.intro_ hN
  have HT := Hid.intro_ hT
  unfold fnV
  rw [← hn, ← hN, ← hM, ← hT]
  rw [← hN] at hl
  clear h hb0 hn hN hM hT
  go_enter Tryz.func291, Tryz.ntmps291
  go_upto_region 1 with (fail)
  rw [← hW0]
  clear hW0
  go_wp2_with fail
  go_loopw [5] (fun i wz => ∃ (q : Nat), q ≤ N ∧ i = .int .i64 q ∧ wz = W0 ∧ Hid (∀ j y, j < q → f.at_[j]? = some y → ¬ y = x)) (fun i _ => N - (intOf i).toNat)
  case atStart => exact ⟨0, Nat.zero_le _, rfl, rfl, Hid.intro_ (fun j y hj => by omega)⟩
  case round =>
    obtain ⟨q, hqm, rfl, hwz, HI⟩ := hrel
    obtain rfl := hwz.symm
    by_cases hlq : q < N
    · obtain ⟨y, hy⟩ : ∃ y, f.at_[q]? = some y := ⟨_, List.getElem?_eq_getElem (by have := HN.out; omega)⟩
      obtain ⟨g, o, hAe, p0⟩ := nat_at HR.out.la hy HR.out.sa
      subst hAe
      have HY := Hid.intro_ hy
      have hqi : (q : Int) < (N : Int) := by omega
      have hq0 : (0 : Int) ≤ (q : Int) := by omega
      clear hy
      by_cases he : y = x
      · have HF := Hid.intro_ (show T = (q : Int) by rw [HT.out]; exact place_yes (by rw [HY.out, he]) HI.out)
        have h2 : ((y : Int) == (x : Int)) = true := by simp [he]
        clear he
        go_wp2_with fail
        go_ret
        exact ⟨by rw [HF.out] <;> rfl, HK0.out⟩
      · have HF := Hid.intro_ he
        have h2 : ((y : Int) == (x : Int)) = false := by
          have : ¬ (y : Int) = (x : Int) := by omega
          simpa using this
        clear he
        go_wp2_with fail
        go_roundw
        case rel => exact ⟨q + 1, by omega, by go_num, trivial, Hid.intro_ (fun j z hj hz => by
          rcases Nat.lt_or_ge j q with h4 | h4
          · exact HI.out j z h4 hz
          · have : j = q := by omega
            subst this
            rw [HY.out] at hz
            injection hz with hz
            subst hz
            exact HF.out)⟩
        case measure => simp [intOf]; omega
    · obtain rfl : q = N := by omega
      have HF := Hid.intro_ (show T = -1 by rw [HT.out]; exact place_no (by rw [← HN.out]; exact HI.out))
      go_wp2_with fail
      go_ret
      exact ⟨by rw [HF.out] <;> rfl, HK0.out⟩
end Go.Proofs.YtadipinnbehhhaaGreatDoor
namespace Go.Proofs.YtadipinnbehhhaaGreatDoor
open Go.RowKit

theorem hangs_yes {bits : List Bool} {j i : Nat} {x y : Bool} (h1 : bits[i]? = some x) (h2 : bits[i ^^^ 2 ^ j]? = some y) (hn : ¬ x = y) : hangsJ bits j = true := by
  unfold hangsJ
  rw [List.any_eq_true]
  refine ⟨i, List.mem_range.2 (List.getElem?_eq_some_iff.1 h1).1, ?_⟩
  rw [List.getD_eq_getElem?_getD, List.getD_eq_getElem?_getD, h1, h2]
  simpa using hn
theorem hangs_no {bits : List Bool} {j : Nat} (h : ∀ i x y, i < bits.length → bits[i]? = some x → bits[i ^^^ 2 ^ j]? = some y → x = y) (hb : ∀ i, i < bits.length → i ^^^ 2 ^ j < bits.length) : hangsJ bits j = false := by
  unfold hangsJ
  rw [List.any_eq_false]
  intro i hi
  have hi := List.mem_range.1 hi
  have h1 := List.getElem?_eq_getElem hi
  have h2 := List.getElem?_eq_getElem (hb i hi)
  rw [List.getD_eq_getElem?_getD, List.getD_eq_getElem?_getD, h1, h2]
  simpa using h i _ _ hi h1 h2
theorem xor_in {m i j : Nat} (hi : i < 2 ^ m) (hj : j < m) : i ^^^ 2 ^ j < 2 ^ m := Nat.xor_lt_two_pow hi (Nat.pow_lt_pow_right (by omega) hj)
set_option maxRecDepth 100000 in
set_option maxHeartbeats 4000000 in
theorem hangs_any (f : FnN) (ok : FnOk f) (A : Option Addr) (ca : Nat) (B : Option Addr) (cb : Nat) (x : Nat) (w : World) (h : FnAt w f A B) :
    Calls Tryz.prog 287 #[fnV f A ca B cb, .int .i64 x] w fun e w' => e = .returned (.bool (hangsN f x)) ∧ Keep Nil w w' := by
  have HPL := Hid.intro_ (fun W (k : Keep Nil w W) => place_any f A ca B cb x W (h.nil k) ok.le)
  obtain ⟨n, hn⟩ : ∃ n, n = f.n := ⟨_, rfl⟩
  obtain ⟨N, hN⟩ : ∃ N, N = f.at_.length := ⟨_, rfl⟩
  obtain ⟨M, hM⟩ : ∃ M, M = f.bits.length := ⟨_, rfl⟩
  obtain ⟨T, hT⟩ : ∃ T, T = hangsN f x := ⟨_, rfl⟩
  obtain ⟨W0, hW0⟩ : ∃ W0, W0 = w.alloc (.cells #[.int .i64 n, .slice A N ca, .slice B M cb] 226) := ⟨_, rfl⟩
  have HK0 := Hid.intro_ (show Keep Nil w W0 by rw [hW0]; exact (Keep.refl Nil w).alloc _)
  have hb0 : Blk W0 w.heap.size 226 #[.int .i64 n, .slice A N ca, .slice B M cb] := by rw [hW0]; exact Blk.new w _ _
  have c0 : W0.cell? ⟨w.heap.size, 0, none⟩ = some (.int .i64 n) := hb0.at_ 0
  have c1 : W0.cell? ⟨w.heap.size, 1, none⟩ = some (.slice A N ca) := hb0.at_ 1
  have c2 : W0.cell? ⟨w.heap.size, 2, none⟩ = some (.slice B M cb) := hb0.at_ 2
  have HR := Hid.intro_ (h.nil HK0.out)
  have HB := Hid.intro_ hb0
  have HP0 := Hid.intro_ (HPL.out W0 HK0.out)
  have HN := Hid.intro_ hN
  have HM := Hid.intro_ hM
  have HT := Hid.intro_ hT
  have HOK := Hid.intro_ ok
  unfold fnV at HP0 ⊢
  rw [← hn, ← hN, ← hM] at HP0
  rw [← hn, ← hN, ← hM, ← hT]
  have hM16 : M ≤ 65536 := by rw [hM, ok.len]; exact pow_small ok.le
  clear h hb0 hn hN hM hT ok HPL
  go_enter Tryz.func287, Tryz.ntmps287
  go_upto_region 1 with (fail)
  rw [← hW0]
  clear hW0
  cases hp : placeN f x with
  | none =>
    have hpl : plN f x = -1 := by unfold plN; rw [hp]
    have HF := Hid.intro_ (show T = false by rw [HT.out]; unfold hangsN; rw [hp])
    rw [hpl] at HP0
    clear hp hpl
    go_wp2_with fail
    refine HP0.out.mono ?_
    rintro e w1 ⟨rfl, k1⟩
    have HK1 := Hid.intro_ k1
    clear k1
    go_wp2_with fail
    go_ret
    exact ⟨by rw [HF.out] <;> rfl, HK0.out.then_ HK1.out⟩
  | some j =>
    have hpl : plN f x = j := by unfold plN; rw [hp]
    have hj := (placeN_some hp).2
    have HHJ := Hid.intro_ (show T = hangsJ f.bits j by rw [HT.out]; unfold hangsN; rw [hp])
    rw [hpl] at HP0
    have hj16 : j ≤ 16 := by have := HOK.out.le; omega
    have hj64 : decide ((j : Int) < 0) = false := decide_eq_false (by omega)
    obtain ⟨pw, hpw⟩ : ∃ pw, pw = 2 ^ j := ⟨_, rfl⟩
    have hsh : IntKind.i64.wrap (2 ^ j : Int) = (pw : Int) := by rw [hpw]; exact shl_one hj16
    have hp16 : pw ≤ 65536 := by rw [hpw]; exact pow_small hj16
    have HPW := Hid.intro_ hpw
    clear hpw
    have HJ := Hid.intro_ hj
    clear hp hpl hj
    go_wp2_with fail
    refine HP0.out.mono ?_
    rintro e w1 ⟨rfl, k1⟩
    have HK1 := Hid.intro_ (HK0.out.then_ k1)
    have d2 : w1.cell? ⟨w.heap.size, 2, none⟩ = some (.slice B M cb) := cell_keep c2 k1 (fun h => h)
    have HR1 := Hid.intro_ (HR.out.nil k1)
    clear k1 c0 c1 c2
    go_wp2_with fail
    go_loopw [6] (fun i wz => ∃ (q : Nat), q ≤ M ∧ i = .int .i64 q ∧ Hid (Keep Nil w1 wz) ∧ Hid (∀ i x y, i < q → f.bits[i]? = some x → f.bits[i ^^^ pw]? = some y → x = y)) (fun i _ => M - (intOf i).toNat)
    case atStart => exact ⟨0, Nat.zero_le _, rfl, Hid.intro_ (Keep.refl _ _), Hid.intro_ (fun i x y hi => by omega)⟩
    case round =>
      obtain ⟨q, hqm, rfl, HKZ, HI⟩ := hrel
      have e2 : wr.cell? ⟨w.heap.size, 2, none⟩ = some (.slice B M cb) := cell_keep d2 HKZ.out (fun h => h)
      by_cases hlq : q < M
      · have hlen : f.bits.length = 2 ^ f.at_.length := HOK.out.len
        obtain ⟨z, hz⟩ : ∃ z, z = q ^^^ pw := ⟨_, rfl⟩
        have hzM : z < M := by
          rw [HM.out, hlen, hz, HPW.out]
          exact xor_in (by rw [← hlen, ← HM.out]; exact hlq) HJ.out
        have hxo : bits .xor .i64 (q : Int) (pw : Int) = (z : Int) := by rw [hz]; exact i64_xor_nat q pw (by omega) (by omega)
        obtain ⟨bx, hbx⟩ : ∃ bx, f.bits[q]? = some bx := ⟨_, List.getElem?_eq_getElem (by have := HM.out; omega)⟩
        obtain ⟨bz, hbz⟩ : ∃ bz, f.bits[z]? = some bz := ⟨_, List.getElem?_eq_getElem (by have := HM.out; omega)⟩
        have hr := HR1.out.nil HKZ.out
        obtain ⟨g, o, hAe, p0⟩ := bool_at hr.lb hbx hr.sb
        obtain ⟨g', o', hAe', p1⟩ := bool_at hr.lb hbz hr.sb
        subst hAe
        simp only [Option.some.injEq, Addr.mk.injEq] at hAe'
        obtain ⟨rfl, rfl, _⟩ := hAe'
        have hqi : (q : Int) < (M : Int) := by omega
        have hq0 : (0 : Int) ≤ (q : Int) := by omega
        have hzi : (z : Int) < (M : Int) := by omega
        have hz0 : (0 : Int) ≤ (z : Int) := by omega
        have HBX := Hid.intro_ hbx
        have HBZ := Hid.intro_ hbz
        have HZ := Hid.intro_ hz
        clear hlen hbx hbz hr hz
        by_cases he : bx = bz
        · subst he
          have HE := Hid.intro_ (True.intro)
          go_upto_region 7 with (fail)
          go_quiet (fail)
          obtain ⟨wa, ka, hwa⟩ : ∃ wa, Keep Nil wr wa ∧ wa = wr.drewN nq := ⟨_, (Keep.refl Nil wr).drewN nq, rfl⟩
          rw [← hwa]
          have HKA := Hid.intro_ (HKZ.out.then_ ka)
          clear hwa ka
          go_wp2_with fail
          go_roundw
          case rel => exact ⟨q + 1, by omega, by go_num, HKA, Hid.intro_ (fun i x y hi h1 h2 => by
            rcases Nat.lt_or_ge i q with h4 | h4
            · exact HI.out i x y h4 h1 h2
            · have : i = q := by omega
              subst this
              rw [HBX.out] at h1
              rw [← HZ.out, HBZ.out] at h2
              rw [← Option.some.inj h1, ← Option.some.inj h2])⟩
          case measure => simp [intOf]; omega
        · have hne : (bx == bz) = false := by simpa using he
          have HF := Hid.intro_ (show T = true by
            rw [HHJ.out]
            refine hangs_yes HBX.out ?_ he
            rw [← HPW.out, ← HZ.out]
            exact HBZ.out)
          go_upto_region 7 with (fail)
          go_quiet (fail)
          obtain ⟨wa, ka, hwa⟩ : ∃ wa, Keep Nil wr wa ∧ wa = wr.drewN nq := ⟨_, (Keep.refl Nil wr).drewN nq, rfl⟩
          rw [← hwa]
          have HKA := Hid.intro_ (HKZ.out.then_ ka)
          clear hwa ka
          go_wp2_with fail
          go_ret
          exact ⟨by rw [HF.out] <;> rfl, HK1.out.then_ HKA.out⟩
      · obtain rfl : q = M := by omega
        have HF := Hid.intro_ (show T = false by
          rw [HHJ.out]
          refine hangs_no (fun i x y hi h1 h2 => HI.out i x y (by rw [HM.out]; exact hi) h1 (by rw [HPW.out]; exact h2)) (fun i hi => ?_)
          rw [HOK.out.len] at hi ⊢
          exact xor_in hi HJ.out)
        go_wp2_with fail
        go_ret
        exact ⟨by rw [HF.out] <;> rfl, HK1.out.then_ HKZ.out⟩
theorem supp_step {p : Nat → Bool} {l : List Nat} {q y : Nat} (h : l[q]? = some y) : (l.take (q + 1)).filter p = (l.take q).filter p ++ (if p y = true then [y] else []) := by
  rw [take_sn2 h, List.filter_append]
  congr 1
  by_cases hp : p y = true
  · simp [hp]
  · simp [hp]
set_option maxRecDepth 100000 in
set_option maxHeartbeats 8000000 in
theorem support_any (f : FnN) (ok : FnOk f) (A : Option Addr) (ca : Nat) (B : Option Addr) (cb : Nat) (w : World) (h : FnAt w f A B) :
    Calls Tryz.prog 257 #[fnV f A ca B cb] w fun e w' => ∃ v, e = .returned v ∧ ONs w' w.heap.size v (suppN f) ∧ Keep Nil w w' := by
  obtain ⟨i1, hi1, hz0, hz1, hz2⟩ := info_parts info_int9
  have HHG := Hid.intro_ (fun x W (k : Keep Nil w W) => hangs_any f ok A ca B cb x W (h.nil k))
  obtain ⟨n, hn⟩ : ∃ n, n = f.n := ⟨_, rfl⟩
  obtain ⟨N, hN⟩ : ∃ N, N = f.at_.length := ⟨_, rfl⟩
  obtain ⟨M, hM⟩ : ∃ M, M = f.bits.length := ⟨_, rfl⟩
  obtain ⟨T, hT⟩ : ∃ T, T = suppN f := ⟨_, rfl⟩
  obtain ⟨W0, hW0⟩ : ∃ W0, W0 = w.alloc (.cells #[.int .i64 n, .slice A N ca, .slice B M cb] 226) := ⟨_, rfl⟩
  have HK0 := Hid.intro_ (show Keep Nil w W0 by rw [hW0]; exact (Keep.refl Nil w).alloc _)
  have hb0 : Blk W0 w.heap.size 226 #[.int .i64 n, .slice A N ca, .slice B M cb] := by rw [hW0]; exact Blk.new w _ _
  have HB := Hid.intro_ hb0
  have HR := Hid.intro_ (h.nil HK0.out)
  have HN := Hid.intro_ hN
  have HT := Hid.intro_ hT
  have hN16 : N ≤ 16 := by rw [hN]; exact ok.le
  unfold fnV at HHG ⊢
  rw [← hn, ← hN, ← hM] at HHG
  rw [← hn, ← hN, ← hM, ← hT]
  clear h hb0 hn hN hM hT ok
  go_enter Tryz.func257, Tryz.ntmps257
  go_upto_region 1 with (fail)
  rw [← hW0]
  clear hW0
  go_wp2_with fail
  go_loopw [3, 4] (fun s i wz => ∃ (q m : Nat) (v : Value), q ≤ N ∧ v = s ∧ i = .int .i64 q ∧ m ≤ q ∧ Hid (m = ((f.at_.take q).filter (hangsN f)).length) ∧ Hid (wz.ownsRow W0.heap.size 3 1 v m (nats ((f.at_.take q).filter (hangsN f)))) ∧ Hid (Keep Nil W0 wz)) (fun _ i _ => N - (intOf i).toNat)
  case atStart => exact ⟨0, 0, _, Nat.zero_le _, rfl, rfl, Nat.le_refl _, Hid.intro_ rfl, Hid.intro_ (World.ownsRow_nil _ _ _ _), Hid.intro_ (Keep.refl _ _)⟩
  case round =>
    obtain ⟨q, m, v, hqm, rfl, rfl, hmq, HMM, HO, HKZ⟩ := hrel
    obtain ⟨Av, cv, hv⟩ := own_form HO.out
    subst hv
    have hbz := HB.out.keep HKZ.out (fun h => h)
    have c0 : wr.cell? ⟨w.heap.size, 0, none⟩ = some (.int .i64 n) := hbz.at_ 0
    have c1 : wr.cell? ⟨w.heap.size, 1, none⟩ = some (.slice A N ca) := hbz.at_ 1
    have c2 : wr.cell? ⟨w.heap.size, 2, none⟩ = some (.slice B M cb) := hbz.at_ 2
    clear hbz
    by_cases hlq : q < N
    · obtain ⟨y, hy⟩ : ∃ y, f.at_[q]? = some y := ⟨_, List.getElem?_eq_getElem (by have := HN.out; omega)⟩
      obtain ⟨g, o, hAe, p0⟩ := nat_at (HR.out.nil HKZ.out).la hy HR.out.sa
      subst hAe
      have hqi : (q : Int) < (N : Int) := by omega
      have hq0 : (0 : Int) ≤ (q : Int) := by omega
      have HHY := Hid.intro_ (HHG.out y wr.drew ((HK0.out.then_ HKZ.out).drew))
      have HY := Hid.intro_ hy
      clear hy
      go_upto_region 5 with (fail)
      go_region_held3 (fun w' => w'.cell? ⟨w.heap.size, 0, none⟩ = some (.int .i64 n) ∧ w'.cell? ⟨w.heap.size, 1, none⟩ = some (.slice (some ⟨g, o, none⟩) N ca) ∧ w'.cell? ⟨w.heap.size, 2, none⟩ = some (.slice B M cb) ∧ w'.cell? ⟨g, o + q, none⟩ = some (.int .i64 y))
        (first | exact ⟨c0, c1, c2, p0⟩ | exact hS2.out | go_keep)
        (first
          | (go_at_call 287; refine HHY.out.mono ?_; rintro e w2 ⟨rfl, k2⟩
             have hS2 := Hid.intro_ (And.intro (cell_keep (w := wr.drew) c0 k2 (fun h => h)) (And.intro (cell_keep (w := wr.drew) c1 k2 (fun h => h)) (And.intro (cell_keep (w := wr.drew) c2 k2 (fun h => h)) (cell_keep (w := wr.drew) p0 k2 (fun h => h)))))
             have K2 := Hid.intro_ k2
             clear k2))
      obtain ⟨d0, d1, d2, d3⟩ := hS2.out
      have HKW := Hid.intro_ (HKZ.out.drew.then_ K2.out)
      have HO2 := Hid.intro_ (own_keep HO.out ((Keep.refl Nil wr).drew.then_ K2.out) (fun g _ h => h))
      clear c0 c1 c2 p0
      cases hh : hangsN f y with
      | false =>
        have HE := Hid.intro_ (show (f.at_.take (q + 1)).filter (hangsN f) = (f.at_.take q).filter (hangsN f) by rw [supp_step HY.out, hh]; simp)
        clear hh
        go_wp2_with fail
        go_roundw
        case rel => exact ⟨q + 1, m, _, by omega, rfl, by go_num, by omega, Hid.intro_ (by rw [HE.out]; exact HMM.out), Hid.intro_ (by rw [HE.out]; exact HO2.out), HKW⟩
        case measure => simp [intOf]; omega
      | true =>
        have HE := Hid.intro_ (show (f.at_.take (q + 1)).filter (hangsN f) = (f.at_.take q).filter (hangsN f) ++ [y] by rw [supp_step HY.out, hh]; simp)
        clear hh
        have hsz := HK0.out.size
        have hsz2 := HKW.out.size
        go_wp2_with (at_builtin; refine wpList_append_own_at _ rfl (.tmp 21) (.tmp 27) 68 rfl W0.heap.size 3 i1 (.int .i64 0) 1 8 Tryz.underlying68 hi1 hz0 hz1 hz2 rfl (by decide) (.slice Av m cv) m (nats ((f.at_.take q).filter (hangsN f))) (by simp [Act.eval]) (own_keep HO2.out ((Keep.refl Nil _).alloc _) (fun g _ h => h)) ⟨w2.heap.size, 0, none⟩ 1 1 [.int .i64 (y : Int)] (by simp [Act.eval]) rfl (one_new _ _ _) (by simp [Value.oneCell']) (by unfold maxLen; omega) (by omega) (by simp; omega) ?_; intro s1 w1 ho1 hg1 _ hs1)
        have k1 : Keep Nil W0 w1 := keep_own (HKW.out.alloc _) (own_keep HO2.out ((Keep.refl Nil _).alloc _) (fun g _ h => h)) (Nat.le_refl _) (Keep.of_grown hg1)
        go_roundw
        case rel => exact ⟨q + 1, m + 1, s1, by omega, rfl, by go_num, by omega, Hid.intro_ (by rw [HE.out, List.length_append, ← HMM.out]; rfl), Hid.intro_ (by rw [HE.out, nats_app]; exact ho1), Hid.intro_ k1⟩
        case measure => simp [intOf]; omega
    · obtain rfl : q = N := by omega
      have HF := Hid.intro_ (show (f.at_.take q).filter (hangsN f) = T by rw [HN.out, List.take_length, HT.out]; rfl)
      go_wp2_with fail
      go_ret
      refine ⟨_, rfl, ⟨?_⟩, HK0.out.then_ HKZ.out⟩
      rw [← HF.out, ← HMM.out]
      exact own_more HO.out HK0.out.size
end Go.Proofs.YtadipinnbehhhaaGreatDoor
namespace Go.Proofs.YtadipinnbehhhaaGreatDoor
open Go.RowKit

set_option maxRecDepth 100000 in
set_option maxHeartbeats 4000000 in
theorem find_any (d : Dg) (A : Option Addr) (cap gs : Nat) (S : List Int) (p : Nat) (w : World) (hd : InRows d) (hr : DgAt w d A) (hS : RowV w gs 3 (ints S)) (hl : S.length = d.v) (hb : ∀ x ∈ S, -1 ≤ x ∧ x ≤ 1099511627776) (hp : p < 18446744073709551616) :
    Calls Tryz.prog 97 #[dgV d A cap, .slice (some ⟨gs, 0, none⟩) d.v d.v, .int .u64 p] w fun e w' => e = .returned (.int .i64 (findL d S p)) ∧ Keep Nil w w' := by
  obtain ⟨v, hv⟩ : ∃ v, v = d.v := ⟨_, rfl⟩
  obtain ⟨r, hr9⟩ : ∃ r, r = d.r := ⟨_, rfl⟩
  obtain ⟨m, hm⟩ : ∃ m, m = d.m := ⟨_, rfl⟩
  obtain ⟨N, hN⟩ : ∃ N, N = d.P.length := ⟨_, rfl⟩
  obtain ⟨W0, hW0⟩ : ∃ W0, W0 = w.alloc (.cells #[.int .i64 v, .int .u64 r, .int .i64 m, .slice A N cap] 86) := ⟨_, rfl⟩
  have HK0 := Hid.intro_ (show Keep Nil w W0 by rw [hW0]; exact (Keep.refl Nil w).alloc _)
  have hB0 : Blk W0 w.heap.size 86 #[.int .i64 v, .int .u64 r, .int .i64 m, .slice A N cap] := by rw [hW0]; exact Blk.new w _ _
  have i0 : W0.cell? ⟨w.heap.size, 0, none⟩ = some (.int .i64 v) := hB0.at_ 0
  have i3 : W0.cell? ⟨w.heap.size, 3, none⟩ = some (.slice A N cap) := hB0.at_ 3
  have hNl : N ≤ 1099511627776 := by have := hd.len; have := hd.lt; omega
  have hvl : v ≤ 65536 := by rw [hv]; exact hd.vars
  have hnd := node_any p v hp W0
  obtain ⟨T, hT⟩ : ∃ T, T = findL d S p := ⟨_, rfl⟩
  rw [← hT]
  have hS0 := hS.keep HK0.out (fun h => h)
  have hR0 := hr.nil HK0.out
  have hi1 := sI_nn p
  have hi2 : sI p < 1099511627776 := by unfold sI; split <;> omega
  have hl2 := sL_lt p
  unfold dgV
  rw [← hv, ← hr9, ← hm, ← hN]
  unfold findL at hT
  simp only at hT
  rw [← hv, ← hN] at hT
  have hlv : nOk p v = true → sL p < v := fun h => by
    unfold nOk at h
    simp only [Bool.and_eq_true, decide_eq_true_eq] at h
    exact h.2
  clear hr9 hm hB0 hd hr hS
  cases hok : nOk p v with
  | false =>
    rw [hok] at hnd hT
    simp only [Bool.false_eq_true, if_false] at hnd hT
    have HND := Hid.intro_ hnd
    have HT := Hid.intro_ hT
    clear hnd hT hlv hok hS0 hR0 hi1 hi2 hl2 hb hl hv hN
    go_enter Tryz.func97, Tryz.ntmps97
    go_upto_region 1 with (fail)
    rw [← hW0]
    clear hW0
    go_wp2_with (go_at_call 153; refine HND.out.mono ?_; rintro e w' ⟨rfl, hw⟩; obtain rfl := hw.symm)
    go_ret
    exact ⟨by rw [HT.out] <;> rfl, HK0.out⟩
  | true =>
    have hlv2 := hlv hok
    rw [hok] at hnd hT
    simp only [if_true] at hnd hT
    obtain ⟨lv, hlve⟩ : ∃ lv : Nat, sL p = (lv : Int) := ⟨(sL p).toNat, by omega⟩
    rw [hlve] at hnd hT hlv2
    rw [Int.toNat_natCast] at hT
    obtain ⟨x, hx⟩ : ∃ x, S[lv]? = some x := ⟨_, List.getElem?_eq_getElem (by omega)⟩
    have hxb := hb x (List.mem_of_getElem? hx)
    have hxd : S.getD lv 0 = x := by rw [List.getD_eq_getElem?_getD, hx]; rfl
    rw [hxd] at hT
    have c0 := hS0.at_ (ints_at hx)
    have hl0 : (0 : Int) ≤ (lv : Int) := by omega
    obtain ⟨id, hid⟩ : ∃ id, id = sI p := ⟨_, rfl⟩
    rw [← hid] at hnd hT hi1 hi2
    have HND := Hid.intro_ hnd
    clear hnd hlv hok hS0 hxd hx hb hl hlve hl2 hid hv
    by_cases h1 : x < 0
    · have HT := Hid.intro_ (show T = -1 by rw [hT, if_pos (.inl h1)])
      clear hT hR0 hN
      go_enter Tryz.func97, Tryz.ntmps97
      go_upto_region 1 with (fail)
      rw [← hW0]
      clear hW0
      go_wp2_with (go_at_call 153; refine HND.out.mono ?_; rintro e w' ⟨rfl, hw⟩; obtain rfl := hw.symm)
      go_ret
      exact ⟨by rw [HT.out] <;> rfl, HK0.out⟩
    by_cases h2 : (N : Int) < id
    · have HT := Hid.intro_ (show T = -1 by rw [hT, if_pos (.inr h2)])
      clear hT hR0 hN
      go_enter Tryz.func97, Tryz.ntmps97
      go_upto_region 1 with (fail)
      rw [← hW0]
      clear hW0
      go_wp2_with (go_at_call 153; refine HND.out.mono ?_; rintro e w' ⟨rfl, hw⟩; obtain rfl := hw.symm)
      go_ret
      exact ⟨by rw [HT.out] <;> rfl, HK0.out⟩
    rw [if_neg (by omega)] at hT
    have hy0 : 0 ≤ x + id := by omega
    have hw1 : wrap64 (x + id) = x + id := wrap_low _ (by omega)
    by_cases h3 : (N : Int) ≤ x + id
    · have HT := Hid.intro_ (show T = -1 by rw [hT, if_pos h3])
      clear hT hR0 hN
      go_enter Tryz.func97, Tryz.ntmps97
      go_upto_region 1 with (fail)
      rw [← hW0]
      clear hW0
      go_wp2_with (go_at_call 153; refine HND.out.mono ?_; rintro e w' ⟨rfl, hw⟩; obtain rfl := hw.symm)
      go_ret
      exact ⟨by rw [HT.out] <;> rfl, HK0.out⟩
    rw [if_neg h3] at hT
    obtain ⟨n, hn⟩ : ∃ n, d.P[(x + id).toNat]? = some n := ⟨_, List.getElem?_eq_getElem (by omega)⟩
    obtain ⟨g, o, hAe, p0, _, _⟩ := nd_at hR0.rd hn hR0.spot
    subst hAe
    have hgd : (d.P.map (·.self)).getD (x + id).toNat 0 = n.self := by rw [List.getD_eq_getElem?_getD, List.getElem?_map, hn]; rfl
    rw [hgd] at hT
    have hi3 : x + id < (N : Int) := by omega
    have hi4 : (x + id).toNat < N := by omega
    obtain ⟨q, hq⟩ : ∃ q, q = n.self := ⟨_, rfl⟩
    rw [← hq] at p0 hT
    by_cases h4 : q = p
    · have HT := Hid.intro_ (show T = x + id by rw [hT, if_pos h4])
      have h5 : ((q : Int) != (p : Int)) = false := by simp [h4]
      clear hT hR0 hN hn hgd hq h4
      go_enter Tryz.func97, Tryz.ntmps97
      go_upto_region 1 with (fail)
      rw [← hW0]
      clear hW0
      go_wp2_with (go_at_call 153; refine HND.out.mono ?_; rintro e w' ⟨rfl, hw⟩; obtain rfl := hw.symm)
      go_ret
      exact ⟨by rw [HT.out] <;> rfl, HK0.out⟩
    · have HT := Hid.intro_ (show T = -1 by rw [hT, if_neg h4])
      have h5 : ((q : Int) != (p : Int)) = true := by
        have : ¬ (q : Int) = (p : Int) := by omega
        simpa using this
      clear hT hR0 hN hn hgd hq h4
      go_enter Tryz.func97, Tryz.ntmps97
      go_upto_region 1 with (fail)
      rw [← hW0]
      clear hW0
      go_wp2_with (go_at_call 153; refine HND.out.mono ?_; rintro e w' ⟨rfl, hw⟩; obtain rfl := hw.symm)
      go_ret
      exact ⟨by rw [HT.out] <;> rfl, HK0.out⟩
end Go.Proofs.YtadipinnbehhhaaGreatDoor
namespace Go.Proofs.YtadipinnbehhhaaGreatDoor
open Go.RowKit

set_option maxHeartbeats 1000000 in
theorem rlevel_in (p l : Nat) (hi : sIn p = true) (hl : sL p = (l : Int)) (w : World) :
    Calls Tryz.prog 216 #[.int .u64 p] w fun e w' => e = .returned (.int .i64 l) ∧ w' = w := by
  obtain ⟨_, hlt, _, _⟩ := sIn_lv hi
  have hf : sF p = false := by
    unfold sIn at hi
    simp only [Bool.and_eq_true, Bool.not_eq_true'] at hi
    exact hi.1
  have hk : sK p = true := by
    unfold sIn at hi
    simp only [Bool.and_eq_true] at hi
    unfold sK
    rw [hi.2, Bool.or_true]
  have hs := rsplit_t p (by omega) w
  rw [hf, hk, hl] at hs
  have HS := Hid.intro_ hs
  clear hi hl hf hk hlt hs
  go_enter Tryz.func216, Tryz.ntmps216
  go_wp2_with (go_at_call 82; refine HS.out.mono ?_; rintro e w' ⟨rfl, hw⟩; obtain rfl := hw.symm)
  go_ret
  exact ⟨rfl, rfl⟩
def strV (t : List Int) : Value := .string ⟨(toB t).toArray⟩
def strs (l : List (List Int)) : List Value := l.map strV
theorem strs_app (a b : List (List Int)) : strs (a ++ b) = strs a ++ strs b := by simp [strs]
theorem info_str : (Tryz.prog.info? 9).map (fun i => (i.zero, i.size, i.bytes)) = some (some (.string ⟨#[]⟩), 1, 16) := by kernel_rfl
theorem Txt3.u8 {t : List Int} (h : Txt3 t) : ∀ x ∈ t, 0 ≤ x ∧ x ≤ 255 := fun x hx => by
  rcases h x hx with e | e | e <;> omega
structure OSs (w : World) (base : Nat) (v : Value) (l : List (List Int)) : Prop where mk ::
  out : w.ownsRow base 9 1 v l.length (strs l)
structure RcP (base gb : Nat) (v0 : Value) (t : List Int) (out : List (List Int)) (w : World) (e : Ending) (w' : World) : Prop where mk ::
  out : ∃ v, e = .returned v ∧ OSs w' base v out ∧ RowV w' gb 5 (by8 t) ∧ Keep (fun z => z = gb ∨ v0.ownBlock = some z) w w' ∧ (v.ownBlock = v0.ownBlock ∨ ∃ g, v.ownBlock = some g ∧ w.heap.size ≤ g)
def NdGot (W : World) (a1 a2 a3 : Nat) (v : Value) (wd : World) : Prop := ∃ T, v = .pointer (some ⟨T, 0, none⟩) ∧ Keep Nil W wd ∧ Blk wd T 46 #[.int .u64 a1, .int .u64 a2, .int .u64 a3] ∧ W.heap.size ≤ T
section
variable {d : Dg} {A : Option Addr} {cap gs gb base : Nat}
theorem by8_setC (t : List Int) (i : Nat) (x : Int) : (by8 t).set i (.int .u8 x) = by8 (t.set i x) := by
  unfold by8
  rw [List.map_set]
theorem by8_atC {t : List Int} {i : Nat} {x : Int} (h : t[i]? = some x) : (by8 t)[i]? = some (.int .u8 x) := by
  unfold by8
  rw [List.getElem?_map, h]
  rfl
structure RcI (d : Dg) (A : Option Addr) (gs gb base : Nat) (w : World) : Prop where
  dg : DgAt w d A
  st : RowV w gs 3 (ints d.starts)
  far : d.P ≠ [] → ∀ a, A = some a → ¬ (a.block = gb ∨ base ≤ a.block)
  ns : ¬ (gs = gb ∨ base ≤ gs)
  nb : gb < base
  lt : base ≤ w.heap.size
theorem ndCells_ne {P : List N3} (h : ndCells P ≠ []) : P ≠ [] := fun e => h (by rw [e]; rfl)
theorem RcI.keep {w w' : World} (h : RcI d A gs gb base w) (k : Keep (fun z => z = gb ∨ base ≤ z) w w') : RcI d A gs gb base w' :=
  ⟨⟨h.dg.rd.keep k (fun a e hne => h.far (ndCells_ne hne) a e), h.dg.spot⟩, h.st.keep k h.ns, h.far, h.ns, h.nb, Nat.le_trans h.lt k.size⟩
set_option maxRecDepth 100000 in
set_option maxHeartbeats 16000000 in
theorem rcw_any (ok : DgOk d) (m : Nat) : ∀ (f p : Nat) (t : List Int) (o : List (List Int)) (v : Value) (w : World), Fu p f → Leads d p → p < 18446744073709551616 → t.length = d.v → (sF p = false → ∀ k, lvN p ≤ k → k < d.v → t[k]? = some 45) → Txt3 t → o.length ≤ m → m ≤ 1000 →
    RcI d A gs gb base w → OSs w base v o → RowV w gb 5 (by8 t) →
    Calls Tryz.prog 176 #[dgV d A cap, .slice (some ⟨gs, 0, none⟩) d.v d.v, .int .u64 p, .slice (some ⟨gb, 0, none⟩) d.v d.v, v, .int .i64 m] w (RcP base gb v t (o ++ (cubesN d.P f p t).take (m - o.length)) w)
  | 0, p, t, o, v, w, hf, _, _, _, _, _, _, _, _, _, _ => by have := hf.one; omega
  | f + 1, p, t, o, v, w, hf, hl, hp64, ht, htb, ht3, hom, hm, hI, hO, hB => by
    obtain ⟨i1, hi1, hz0, hz1, hz2⟩ := info_parts info_str
    obtain ⟨vv, hvv⟩ : ∃ vv, vv = d.v := ⟨_, rfl⟩
    obtain ⟨r, hr9⟩ : ∃ r, r = d.r := ⟨_, rfl⟩
    obtain ⟨mm, hmm⟩ : ∃ mm, mm = d.m := ⟨_, rfl⟩
    obtain ⟨N, hN⟩ : ∃ N, N = d.P.length := ⟨_, rfl⟩
    obtain ⟨n, hn⟩ : ∃ n, n = o.length := ⟨_, rfl⟩
    obtain ⟨W0, hW0⟩ : ∃ W0, W0 = w.alloc (.cells #[.int .i64 vv, .int .u64 r, .int .i64 mm, .slice A N cap] 86) := ⟨_, rfl⟩
    have HK0 := Hid.intro_ (show Keep Nil w W0 by rw [hW0]; exact (Keep.refl Nil w).alloc _)
    have HB0 := Hid.intro_ (show Blk W0 w.heap.size 86 #[.int .i64 vv, .int .u64 r, .int .i64 mm, .slice A N cap] by rw [hW0]; exact Blk.new w _ _)
    have HI0 := Hid.intro_ (hI.keep (HK0.out.mono (fun _ _ h => h.elim)))
    have HO0 := Hid.intro_ (own_keep hO.out HK0.out (fun _ _ h => h))
    have HB1 := Hid.intro_ (hB.keep HK0.out (fun h => h))
    have HB9 := Hid.intro_ (show base ≤ w.heap.size from hI.lt)
    have hvl : vv ≤ 65536 := by rw [hvv]; exact ok.rows.vars
    have hNl : N ≤ 1099511627776 := by have := ok.rows.len; have := ok.rows.lt; omega
    obtain ⟨Ao, co, hvo⟩ := own_form hO.out
    subst hvo
    have hKF : Keep (fun z => z = gb ∨ (Value.slice Ao o.length co).ownBlock = some z) w W0 := HK0.out.mono (fun _ _ h => h.elim)
    rw [← hn] at HO0 hom hKF ⊢
    have HN := Hid.intro_ hn
    by_cases h1 : m ≤ n
    · have hq : decide ((m : Int) ≤ (n : Int)) = true := decide_eq_true (by omega)
      have HF : Hid (o ++ (cubesN d.P (f + 1) p t).take (m - n) = o) := Hid.intro_ (by rw [show m - n = 0 by omega, List.take_zero, List.append_nil])
      unfold dgV
      rw [← hvv, ← hr9, ← hmm, ← hN]
      have HKF := Hid.intro_ hKF
      clear hf hl ht htb ht3 hI hO hB hvv hr9 hmm hN hn hKF
      go_enter Tryz.func176, Tryz.ntmps176
      go_upto_region 1 with (fail)
      rw [← hW0]
      clear hW0
      go_wp2_with fail
      go_ret
      rw [HF.out]
      exact ⟨_, rfl, ⟨by rw [← HN.out]; exact HO0.out⟩, HB1.out, HKF.out, .inl rfl⟩
    · have hq : decide ((m : Int) ≤ (n : Int)) = false := decide_eq_false (by omega)
      have hnm : n < m := by omega
      by_cases h2 : p = 9223372036854775808
      · have hq2 : ((p : Int) == 9223372036854775808) = true := by rw [h2]; rfl
        have HF : Hid (o ++ (cubesN d.P (f + 1) p t).take (m - n) = o) := Hid.intro_ (by rw [h2, cubes_false, List.take_nil, List.append_nil])
        unfold dgV
        rw [← hvv, ← hr9, ← hmm, ← hN]
        have HKF := Hid.intro_ hKF
        clear hf hl ht htb ht3 hI hO hB hvv hr9 hmm hN hn hKF h1 h2 hp64
        go_enter Tryz.func176, Tryz.ntmps176
        go_upto_region 1 with (fail)
        rw [← hW0]
        clear hW0
        go_wp2_with fail
        go_ret
        rw [HF.out]
        exact ⟨_, rfl, ⟨by rw [← HN.out]; exact HO0.out⟩, HB1.out, HKF.out, .inl rfl⟩
      · have hq2 : ((p : Int) == 9223372036854775808) = false := by
          have : ¬ (p : Int) = 9223372036854775808 := by omega
          simpa using this
        by_cases h3 : p = 9223372036854775809
        · have hq3 : ((p : Int) == 9223372036854775809) = true := by rw [h3]; rfl
          have HF : Hid (o ++ (cubesN d.P (f + 1) p t).take (m - n) = o ++ [t]) := Hid.intro_ (by
            obtain ⟨z, hz⟩ : ∃ z, m - n = z + 1 := ⟨m - n - 1, by omega⟩
            rw [h3, cubes_leaf (by decide), if_pos (by decide), hz]
            simp)
          have cv : (convert 161 9 (.slice (some ⟨gb, 0, none⟩) vv vv)).run Tryz.prog W0 = .ok (.string ⟨(toB t).toArray⟩) W0 := by
            have := conv_str W0 ⟨gb, 0, none⟩ vv t HB1.out.rd ht3.u8
            rw [ht, ← hvv] at this
            exact this
          have HI9 := Hid.intro_ (show base ≤ W0.heap.size from HI0.out.lt)
          unfold dgV
          rw [← hvv, ← hr9, ← hmm, ← hN]
          have HKF := Hid.intro_ hKF
          clear hf hl ht htb ht3 hI hO hB hvv hr9 hmm hN hn hKF h1 h2 hp64 h3
          go_enter Tryz.func176, Tryz.ntmps176
          go_upto_region 1 with (fail)
          rw [← hW0]
          clear hW0
          go_wp2_with (at_builtin; refine wpList_append_own_at _ rfl (.tmp 26) (.tmp 29) 112 rfl base 9 i1 (.string ⟨#[]⟩) 1 16 Tryz.underlying112 hi1 hz0 hz1 hz2 rfl (by decide) (.slice Ao n co) n (strs o) (by simp [Act.eval]) (own_keep HO0.out ((Keep.refl Nil _).alloc _) (fun g _ h => h)) ⟨W0.heap.size, 0, none⟩ 1 1 [.string ⟨(toB t).toArray⟩] (by simp [Act.eval]) rfl (one_new _ _ _) (by simp [Value.oneCell']) (by unfold maxLen; omega) (by omega) (by have := HI9.out; simp; omega) ?_; intro s1 w1 ho1 hg1 _ hs1)
          have k1 := Keep.of_grown hg1
          have hown : ∀ z, (Value.slice Ao n co).ownBlock = some z → base ≤ z := fun z hz => own_base HO0.out hz
          have hne : ¬ (Value.slice Ao n co).ownBlock = some gb := fun e => by have := hown gb e; have := HI0.out.nb; omega
          go_ret
          rw [HF.out]
          refine ⟨_, rfl, ⟨?_⟩, (HB1.out.keep ((Keep.refl Nil W0).alloc _) (fun h => h)).keep k1 hne, ?_, ?_⟩
          · rw [strs_app, List.length_append, ← HN.out]
            exact ho1
          · exact HKF.out.trans ((((Keep.refl Nil W0).alloc _).mono (fun _ _ h => h.elim)).then_ k1) (fun z _ hz => .inr hz)
          · rcases hs1 with h | h
            · exact .inl h
            · exact .inr ⟨_, h, by have := HK0.out.size; simp; omega⟩
        · have hq3 : ((p : Int) == 9223372036854775809) = false := by
            have : ¬ (p : Int) = 9223372036854775809 := by omega
            simpa using this
          have hs : sF p = false := by
            cases hc : sF p with
            | false => rfl
            | true => rcases (sF_cases p).1 hc with e | e <;> contradiction
          have hl0 : 0 ≤ findL d d.starts p := by
            rcases hl with h | h
            · rw [hs] at h; cases h
            · exact h
          obtain ⟨i, x, hfe, hxi, hxp, _⟩ := findL_some hl0
          have hx := NodeAt.of ok hxi
          have hin := ok.rows.inn hx.mem
          obtain ⟨lv, hlv⟩ : ∃ lv, lv = lvN p := ⟨_, rfl⟩
          have hsl : sL p = (lv : Int) := by rw [hlv, lvN_sL]
          have hlvv : lv < vv := by rw [hlv, hvv, ← hxp]; exact hx.lv
          rw [hxp] at hin
          have HLV := Hid.intro_ (fun W => rlevel_in p lv hin hsl W)
          obtain ⟨g, o1, hAe, p0, p1, p2⟩ := nd_at HI0.out.dg.rd hxi HI0.out.dg.spot
          have hFD := fun W (k : Keep Nil W0 W) => find_any d A cap gs d.starts p W ok.rows (HI0.out.dg.nil k) (HI0.out.st.keep k (fun h => h)) (startsN_len _ _ _) (fun y hy => by
            have := startsN_bd d.v d.P d.m y hy
            have := ok.rows.lt
            omega) hp64
          rw [hfe] at hFD
          have IH := rcw_any ok m f
          unfold dgV at IH hFD ⊢
          rw [← hvv, ← hr9, ← hmm, ← hN] at IH hFD ⊢
          subst hAe
          have HFD := Hid.intro_ hFD
          have hiN : i < N := by rw [hN]; exact (List.getElem?_eq_some_iff.1 hxi).1
          have HC : Hid (cubesN d.P (f + 1) p t = cubesN d.P f x.low (t.set lv 48) ++ cubesN d.P f x.high (t.set lv 49)) := Hid.intro_ (by rw [hlv, ← hxp]; exact cubes_node hx)
          have htl : t[lv]? = some 45 := htb hs lv (by omega) (by omega)
          have hxl := (ok.rows.okn x hx.mem).2
          have htb1 : ∀ (a : Int) (q : Nat), (sF q = false → sL x.self < sL q) → sF q = false → ∀ k, lvN q ≤ k → k < vv → (t.set lv a)[k]? = some 45 := fun a q hq h3 k h1 h2 => by
            have e1 := hq h3
            have e3 := lvN_sL q
            rw [hxp] at e1
            rw [List.getElem?_set_ne (by omega)]
            exact htb hs k (by omega) (by omega)
          have hfx : Fu x.self (f + 1) := by rw [hxp]; exact hf
          have hsx : sF x.self = false := by rw [hxp]; exact hs
          have htv : ∀ a, (t.set lv a).length = vv := fun a => by rw [List.length_set, hvv]; exact ht
          have H1 := Hid.intro_ (fun W (hI : RcI d (some ⟨g, o1, none⟩) gs gb base W) (hO : OSs W base (.slice Ao n co) o) (hB : RowV W gb 5 (by8 (t.set lv 48))) =>
            IH x.low (t.set lv 48) o (.slice Ao n co) W (hfx.kid hsx hx.lo) hx.lol hxl.1 (htv _) (htb1 48 x.low hx.lo) (ht3.set (.inr (.inl rfl))) (by omega) hm hI hO hB)
          have H2 := Hid.intro_ (fun o5 v5 W (hlen : o5.length ≤ m) (hI : RcI d (some ⟨g, o1, none⟩) gs gb base W) (hO : OSs W base v5 o5) (hB : RowV W gb 5 (by8 (t.set lv 49))) =>
            IH x.high (t.set lv 49) o5 v5 W (hfx.kid hsx hx.hi) hx.hil hxl.2 (htv _) (htb1 49 x.high hx.hi) (ht3.set (.inr (.inr rfl))) hlen hm hI hO hB)
          obtain ⟨a1, ha1⟩ : ∃ a1, a1 = x.self := ⟨_, rfl⟩
          obtain ⟨a2, ha2⟩ : ∃ a2, a2 = x.low := ⟨_, rfl⟩
          obtain ⟨a3, ha3⟩ : ∃ a3, a3 = x.high := ⟨_, rfl⟩
          rw [← ha1] at p0
          rw [← ha2] at p1 H1 HC
          rw [← ha3] at p2 H2 HC
          have HTL := Hid.intro_ htl
          have HOLT := Hid.intro_ (show ∀ z, (Value.slice Ao n co).ownBlock = some z → z < w.heap.size from fun z hz => by
            rw [hn] at hz
            exact (hO.out.lt z hz).2)
          have HTV := Hid.intro_ htv
          have HKF := Hid.intro_ hKF
          have c0 : W0.cell? ⟨w.heap.size, 0, none⟩ = some (.int .i64 vv) := HB0.out.at_ 0
          have c1 : W0.cell? ⟨w.heap.size, 1, none⟩ = some (.int .u64 r) := HB0.out.at_ 1
          have c2 : W0.cell? ⟨w.heap.size, 2, none⟩ = some (.int .i64 mm) := HB0.out.at_ 2
          have c3 : W0.cell? ⟨w.heap.size, 3, none⟩ = some (.slice (some ⟨g, o1, none⟩) N cap) := HB0.out.at_ 3
          have hix0 : (0 : Int) ≤ (i : Int) := by omega
          have hix1 : (i : Int) < (N : Int) := by omega
          have hlv0 : (0 : Int) ≤ (lv : Int) := by omega
          have hlv1 : (lv : Int) < (vv : Int) := by omega
          clear hf hl ht htb ht3 hI hO hB hvv hr9 hmm hN hn hKF h2 hp64 h3 hl0 hfe hxi hxp hx hin hlv hsl hFD IH htl hxl htb1 hfx hsx htv ha1 ha2 ha3
          go_enter Tryz.func176, Tryz.ntmps176
          go_upto_region 5 with (fail)
          rw [← hW0]
          clear hW0
          go_cut [13] from 31 to 38 (fun v13 wd => NdGot W0 a1 a2 a3 v13 wd)
          case first =>
            have hSk : Hid (∀ w', Keep (fun z => W0.heap.size ≤ z) W0 w' → (w'.cell? ⟨w.heap.size, 0, none⟩ = some (.int .i64 vv) ∧ w'.cell? ⟨w.heap.size, 1, none⟩ = some (.int .u64 r) ∧ w'.cell? ⟨w.heap.size, 2, none⟩ = some (.int .i64 mm) ∧ w'.cell? ⟨w.heap.size, 3, none⟩ = some (.slice (some ⟨g, o1, none⟩) N cap) ∧ w'.cell? ⟨g, o1 + i * 3, none⟩ = some (.int .u64 a1) ∧ w'.cell? ⟨g, o1 + i * 3 + 1, none⟩ = some (.int .u64 a2) ∧ w'.cell? ⟨g, o1 + i * 3 + 2, none⟩ = some (.int .u64 a3))) := Hid.intro_ (fun w' k => by
              have e0 := cell_lt c0
              have e1 := cell_lt p0
              simp only at e0 e1
              exact ⟨cell_keep c0 k (by simp only; omega), cell_keep c1 k (by simp only; omega), cell_keep c2 k (by simp only; omega), cell_keep c3 k (by simp only; omega), cell_keep p0 k (by simp only; omega), cell_keep p1 k (by simp only; omega), cell_keep p2 k (by simp only; omega)⟩)
            go_region_held3 (fun w' => w'.cell? ⟨w.heap.size, 0, none⟩ = some (.int .i64 vv) ∧ w'.cell? ⟨w.heap.size, 1, none⟩ = some (.int .u64 r) ∧ w'.cell? ⟨w.heap.size, 2, none⟩ = some (.int .i64 mm) ∧ w'.cell? ⟨w.heap.size, 3, none⟩ = some (.slice (some ⟨g, o1, none⟩) N cap) ∧ w'.cell? ⟨g, o1 + i * 3, none⟩ = some (.int .u64 a1) ∧ w'.cell? ⟨g, o1 + i * 3 + 1, none⟩ = some (.int .u64 a2) ∧ w'.cell? ⟨g, o1 + i * 3 + 2, none⟩ = some (.int .u64 a3))
              (first | exact ⟨c0, c1, c2, c3, p0, p1, p2⟩ | exact hSk.out _ KZ.out | exact hSk.out _ (KZ.out.alloc _) | exact hSk.out _ (((KZ.out.setCell (p := ⟨W0.heap.size, 0, none⟩) (fun _ => Nat.le_refl _) _).setCell (p := ⟨W0.heap.size, 1, none⟩) (fun _ => Nat.le_refl _) _).setCell (p := ⟨W0.heap.size, 2, none⟩) (fun _ => Nat.le_refl _) _) | go_keep)
              (first
                | (go_at_call 97; refine (HFD.out _ (Keep.refl Nil W0).drew).mono ?_; rintro e w3 ⟨rfl, k2⟩
                   have kz := (Keep.refl Nil W0).drew.then_ k2
                   have KZ := Hid.intro_ (kz.mono (fun _ _ h => h.elim : ∀ z, z < W0.heap.size → Nil z → W0.heap.size ≤ z))
                   have KZN := Hid.intro_ kz
                   clear k2 kz)
                | (go_at_call 97; refine (HFD.out _ ((Keep.refl Nil W0).alloc (.cells #[.int .u64 0, .int .u64 0, .int .u64 0] 46)).drew).mono ?_; rintro e w3 ⟨rfl, k2⟩
                   have kz := ((Keep.refl Nil W0).alloc (.cells #[.int .u64 0, .int .u64 0, .int .u64 0] 46)).drew.then_ k2
                   have bz := (Blk.new W0 46 #[.int .u64 0, .int .u64 0, .int .u64 0]).drew.keep k2 (fun h => h)
                   have z0 : w3.cell? ⟨W0.heap.size, 0, none⟩ = some (.int .u64 0) := bz.at_ 0
                   have z1 : w3.cell? ⟨W0.heap.size, 1, none⟩ = some (.int .u64 0) := bz.at_ 1
                   have z2 : w3.cell? ⟨W0.heap.size, 2, none⟩ = some (.int .u64 0) := bz.at_ 2
                   have zf0 := bz.fr 0
                   have zf1 := bz.fr 1
                   have zf2 := bz.fr 2
                   have KZ := Hid.intro_ (kz.mono (fun _ _ h => h.elim : ∀ z, z < W0.heap.size → Nil z → W0.heap.size ≤ z))
                   have KZN := Hid.intro_ kz
                   have BZ := Hid.intro_ bz
                   clear k2 kz bz))
            all_goals
              go_wp2_with fail
              go_meet
              first
                | exact ⟨w3.heap.size, rfl, KZN.out.alloc _, Blk.new w3 _ _, KZN.out.size⟩
                | exact ⟨W0.heap.size, rfl, ((KZN.out.setCell (p := ⟨W0.heap.size, 0, none⟩) (fun h => absurd h (Nat.lt_irrefl _)) _).setCell (p := ⟨W0.heap.size, 1, none⟩) (fun h => absurd h (Nat.lt_irrefl _)) _).setCell (p := ⟨W0.heap.size, 2, none⟩) (fun h => absurd h (Nat.lt_irrefl _)) _, ((BZ.out.set_ 0 _).set_ 1 _).set_ 2 _, Nat.le_refl _⟩
          case rest =>
            obtain ⟨T, rfl, kT, bT, hT⟩ := hcut
            have hW0s := HB0.out.lt
            have hgb : gb < base := HI0.out.nb
            have hbl : base ≤ W0.heap.size := HI0.out.lt
            have hgw : gb < w.heap.size := by
              have := HKF.out.size
              have := HB9.out
              omega
            have n1 : ¬ gb = w.heap.size := by omega
            have n2 : ¬ w.heap.size = gb := by omega
            have n3 : ¬ gb = T := by omega
            have n4 : ¬ T = gb := by omega
            have hTw : w.heap.size < T := by omega
            have BD := HB0.out.keep kT (fun h => h)
            have BB := HB1.out.keep kT (fun h => h)
            have d0 : wc.cell? ⟨w.heap.size, 0, none⟩ = some (.int .i64 vv) := BD.at_ 0
            have d1 : wc.cell? ⟨w.heap.size, 1, none⟩ = some (.int .u64 r) := BD.at_ 1
            have d2 : wc.cell? ⟨w.heap.size, 2, none⟩ = some (.int .i64 mm) := BD.at_ 2
            have d3 : wc.cell? ⟨w.heap.size, 3, none⟩ = some (.slice (some ⟨g, o1, none⟩) N cap) := BD.at_ 3
            have x1 : wc.cell? ⟨T, 1, none⟩ = some (.int .u64 a2) := bT.at_ 1
            have x2 : wc.cell? ⟨T, 2, none⟩ = some (.int .u64 a3) := bT.at_ 2
            have b0 : wc.cell? ⟨gb, lv, none⟩ = some (.int .u8 45) := BB.at_ (by8_atC HTL.out)
            have f0 := BB.fr lv
            obtain ⟨X1, hX1⟩ : ∃ X1, X1 = wc.setCell ⟨gb, lv, none⟩ (.int .u8 48) := ⟨_, rfl⟩
            have kX1 : Keep (fun z => z = gb) wc X1 := by rw [hX1]; exact (Keep.refl (fun z => z = gb) wc).setCell (p := ⟨gb, lv, none⟩) (fun _ => rfl) _
            have BB1 : RowV X1 gb 5 (by8 (t.set lv 48)) := by rw [hX1, ← by8_setC]; exact BB.set lv _
            have kw1 : Keep (fun z => z = gb) W0 X1 := (kT.mono (fun _ _ h => h.elim)).then_ kX1
            have hI1 := HI0.out.keep (kw1.mono (fun z _ h => .inl h))
            have hnb0 : ∀ z, (Value.slice Ao n co).ownBlock = some z → base ≤ z := fun z hz => own_base HO0.out hz
            have hO1 : OSs X1 base (.slice Ao n co) o := ⟨by rw [← HN.out]; exact own_keep HO0.out kw1 (fun z hz e => by have := hnb0 z hz; have e : z = gb := e; omega)⟩
            have HC1 := Hid.intro_ (H1.out X1 hI1 hO1 BB1)
            have KW1 := Hid.intro_ kw1
            have KX1 := Hid.intro_ kX1
            have HI1 := Hid.intro_ hI1
            have HD1 := Hid.intro_ (BD.keep kX1 n2)
            have HT1 := Hid.intro_ (bT.keep kX1 n4)
            have HNB0 := Hid.intro_ hnb0
            clear H1 kX1 BB1 kw1 hI1 hnb0 hO1 BD bT BB kT HFD p0 p1 p2 c0 c1 c2 c3 hT
            go_wp2_with (go_at_call 216; refine (HLV.out _).mono ?_; rintro e w' ⟨rfl, hw⟩; obtain rfl := hw.symm)
            rw [← hX1]
            clear hX1
            refine HC1.out.mono ?_
            rintro e w5 hp
            obtain ⟨v5, rfl, hO5, hB5, k5, hv5⟩ := hp.out
            obtain ⟨o5, ho5⟩ : ∃ o5, o5 = o ++ (cubesN d.P f a2 (t.set lv 48)).take (m - o.length) := ⟨_, rfl⟩
            rw [← ho5] at hO5
            have hl5 : o5.length ≤ m := by
              rw [ho5, List.length_append, List.length_take, ← HN.out]
              omega
            obtain ⟨A5, c5, hv5e⟩ := own_form hO5.out
            subst hv5e
            obtain ⟨n5, hn5⟩ : ∃ n5, n5 = o5.length := ⟨_, rfl⟩
            rw [← hn5] at hO5 hv5 hl5 ⊢
            have hown0 : ∀ z, (Value.slice Ao n co).ownBlock = some z → z < w.heap.size := HOLT.out
            have hX1s : W0.heap.size ≤ X1.heap.size := KW1.out.size
            have hD5 := HD1.out.keep k5 (fun hz => hz.elim n2 (fun h => by have := hown0 _ h; omega))
            have hT5 := HT1.out.keep k5 (fun hz => hz.elim n4 (fun h => by have := hown0 _ h; omega))
            have hI5 := HI1.out.keep (k5.mono (fun z _ hz => hz.elim .inl (fun h => .inr (HNB0.out z h))))
            have e0 : w5.cell? ⟨w.heap.size, 0, none⟩ = some (.int .i64 vv) := hD5.at_ 0
            have e1 : w5.cell? ⟨w.heap.size, 1, none⟩ = some (.int .u64 r) := hD5.at_ 1
            have e2 : w5.cell? ⟨w.heap.size, 2, none⟩ = some (.int .i64 mm) := hD5.at_ 2
            have e3 : w5.cell? ⟨w.heap.size, 3, none⟩ = some (.slice (some ⟨g, o1, none⟩) N cap) := hD5.at_ 3
            have y2 : w5.cell? ⟨T, 2, none⟩ = some (.int .u64 a3) := hT5.at_ 2
            have hls : lv < (t.set lv 48).length := by rw [HTV.out]; exact hlvv
            have c48 : (t.set lv 48)[lv]? = some 48 := List.getElem?_set_self (by rw [List.length_set] at hls; exact hls)
            have b5 : w5.cell? ⟨gb, lv, none⟩ = some (.int .u8 48) := hB5.at_ (by8_atC c48)
            have f5 := hB5.fr lv
            obtain ⟨X2, hX2⟩ : ∃ X2, X2 = w5.setCell ⟨gb, lv, none⟩ (.int .u8 49) := ⟨_, rfl⟩
            have kX2 : Keep (fun z => z = gb) w5 X2 := by rw [hX2]; exact (Keep.refl (fun z => z = gb) w5).setCell (p := ⟨gb, lv, none⟩) (fun _ => rfl) _
            have BB2 : RowV X2 gb 5 (by8 (t.set lv 49)) := by
              have := hB5.set lv (.int .u8 49)
              rw [by8_setC, List.set_set] at this
              rw [hX2]
              exact this
            have hnb5 : ∀ z, (Value.slice A5 n5 c5).ownBlock = some z → base ≤ z := fun z hz => own_base hO5.out hz
            have hO6 : OSs X2 base (.slice A5 n5 c5) o5 := ⟨own_keep hO5.out kX2 (fun z hz e => by have := hnb5 z hz; have e : z = gb := e; omega)⟩
            have hI6 := hI5.keep (kX2.mono (fun z _ h => .inl h))
            have HC2 := Hid.intro_ (H2.out o5 (.slice A5 n5 c5) X2 (by rw [← hn5]; exact hl5) hI6 hO6 BB2)
            have hD6 := hD5.keep kX2 n2
            have hT6 := hT5.keep kX2 n4
            have K5 := Hid.intro_ k5
            have KX2 := Hid.intro_ kX2
            have HV5 := Hid.intro_ hv5
            have HO5 := Hid.intro_ ho5
            have HN5 := Hid.intro_ hn5
            clear H2 hp hO5 hB5 k5 hv5 ho5 hn5 hD5 hT5 hI5 c48 kX2 BB2 hnb5 hO6 hI6 hD6 hT6
            go_wp2_with fail
            rw [← hX2]
            clear hX2
            refine HC2.out.mono ?_
            rintro e w6 hp
            obtain ⟨v6, rfl, hO6, hB6, k6, hv6⟩ := hp.out
            have c49 : (t.set lv 49)[lv]? = some 49 := List.getElem?_set_self (by rw [List.length_set] at hls; exact hls)
            have b6 : w6.cell? ⟨gb, lv, none⟩ = some (.int .u8 49) := hB6.at_ (by8_atC c49)
            have f6 := hB6.fr lv
            obtain ⟨o6, ho6⟩ : ∃ o6, o6 = o5 ++ (cubesN d.P f a3 (t.set lv 49)).take (m - o5.length) := ⟨_, rfl⟩
            rw [← ho6] at hO6
            have HO6E := Hid.intro_ ho6
            have HO6 := Hid.intro_ hO6
            have HB6 := Hid.intro_ hB6
            have K6 := Hid.intro_ k6
            have HV6 := Hid.intro_ hv6
            obtain ⟨A6, c6, hv6e⟩ := own_form hO6.out
            subst hv6e
            obtain ⟨n6, hn6⟩ : ∃ n6, n6 = o6.length := ⟨_, rfl⟩
            rw [← hn6] at HO6 HV6 ⊢
            have HN6 := Hid.intro_ hn6
            clear hp hO6 hB6 k6 hv6 c49 ho6 hn6
            go_wp2_with fail
            go_ret
            have kz : Keep (fun z => z = gb) w6 (w6.setCell ⟨gb, lv, none⟩ (.int .u8 45)) := (Keep.refl (fun z => z = gb) w6).setCell (p := ⟨gb, lv, none⟩) (fun _ => rfl) _
            have hnb6 := fun z hz => own_base HO6.out.out (g := z) hz
            have hset : (t.set lv 49).set lv 45 = t := by
              rw [List.set_set]
              obtain ⟨h7, h8⟩ := List.getElem?_eq_some_iff.1 HTL.out
              rw [← h8, List.set_getElem_self]
            refine ⟨_, rfl, ⟨?_⟩, ?_, ?_, ?_⟩
            · have := own_keep HO6.out.out kz (fun z hz e => by have := hnb6 z hz; have e : z = gb := e; omega)
              have e9 : o6 = o ++ (cubesN d.P (f + 1) p t).take (m - n) := by
                rw [HC.out, HN.out, take_two, ← HO5.out]
                exact HO6E.out
              rw [← e9]
              rw [← HN6.out] at this ⊢
              exact this
            · have := HB6.out.set lv (.int .u8 45)
              rw [by8_setC, hset] at this
              exact this
            · have q1 : Keep (fun z => z = gb ∨ (Value.slice Ao n co).ownBlock = some z) w X1 := (HK0.out.mono (fun _ _ h => h.elim : ∀ z, z < w.heap.size → Nil z → (z = gb ∨ (Value.slice Ao n co).ownBlock = some z))).trans KW1.out (fun z _ h => .inl h)
              have hX1w := KW1.out.size
              exact (((q1.then_ K5.out).trans KX2.out (fun z _ h => .inl h)).trans K6.out (fun z hz h => h.elim .inl (fun e => by
                rcases HV5.out with h5 | ⟨z5, h5, hz5⟩
                · rw [h5] at e
                  exact .inr e
                · rw [h5] at e
                  injection e with e
                  omega))).trans kz (fun z _ h => .inl h)
            · rcases HV6.out with h | ⟨z, h, hz⟩
              · rcases HV5.out with h5 | ⟨z5, h5, hz5⟩
                · exact .inl (h.trans h5)
                · exact .inr ⟨z5, h.trans h5, by omega⟩
              · exact .inr ⟨z, h, by have := KX2.out.size; have := K5.out.size; omega⟩
end
end Go.Proofs.YtadipinnbehhhaaGreatDoor
namespace Go.Proofs.YtadipinnbehhhaaGreatDoor
open Go.RowKit

def kidG (g : N3 → Bool) (n : N3) : Nat := if g n = true then n.high else n.low
section
variable {d : Dg} {g : N3 → Bool} {n x : N3} {i j c : Nat}
theorem NodeAt.kid_leads (h : NodeAt d n) (g : N3 → Bool) : Leads d (kidG g n) := by
  unfold kidG
  split
  · exact h.hil
  · exact h.lol
theorem NodeAt.kid_level (h : NodeAt d n) (g : N3 → Bool) (hs : sF (kidG g n) = false) : sL n.self < sL (kidG g n) := by
  unfold kidG at *
  split
  · rename_i hg
    rw [if_pos hg] at hs
    exact h.hi hs
  · rename_i hg
    rw [if_neg hg] at hs
    exact h.lo hs
theorem InRows.child_before (h : InRows d) (hn : d.P[i]? = some n) (hx : d.P[j]? = some x) (hl : sL n.self < sL c) (e : x.self = c) : j < i := by
  rw [← e] at hl
  obtain ⟨hi, ea⟩ := List.getElem?_eq_some_iff.1 hn
  obtain ⟨hj, eb⟩ := List.getElem?_eq_some_iff.1 hx
  rcases Nat.lt_trichotomy i j with h1 | h1 | h1
  · have := List.pairwise_iff_getElem.1 h.pairs i j hi hj h1
    rw [ea, eb] at this
    unfold Later at this
    omega
  · subst h1
    rw [hn] at hx
    injection hx with hx
    subst hx
    omega
  · exact h1
structure PtOn (X : KX) (k pn : Nat) (w : World) : Prop where mk ::
  cur : CuK X k w
  reach : sF pn = false → ∃ j x, j < X.d.m - k ∧ X.d.P[j]? = some x ∧ x.self = pn
  le : k ≤ X.d.m
  leads : Leads X.d pn
  lt : pn < 18446744073709551616
theorem PtOn.start {X : KX} {w : World} (ok : DgOk X.d) (h : CuK X 0 w) : PtOn X 0 X.d.r w := by
  refine ⟨h, fun hs => ?_, Nat.zero_le _, ok.root, ok.rows.rootlt⟩
  rcases ok.root with h1 | h1
  · rw [hs] at h1; cases h1
  · obtain ⟨i, n, _, hn, hp, _⟩ := findL_some h1
    have := (List.getElem?_eq_some_iff.1 hn).1
    have hl := ok.rows.len
    exact ⟨i, n, by omega, hn, hp⟩
theorem PtOn.nil {X : KX} {k pn : Nat} {w w' : World} (h : PtOn X k pn w) (kn : Keep Nil w w') : PtOn X k pn w' := ⟨h.cur.nil kn, h.reach, h.le, h.leads, h.lt⟩
theorem PtOn.aside {X : KX} {k pn : Nat} {w w' : World} (h : PtOn X k pn w) (kn : Keep X.H w w') : PtOn X k pn w' := ⟨h.cur.aside kn, h.reach, h.le, h.leads, h.lt⟩
theorem PtOn.hit {X : KX} {k pn : Nat} {w w' : World} (ok : DgOk X.d) (_h : PtOn X k pn w) (hk : k < X.d.m) (hn : X.d.P[X.d.m - 1 - k]? = some n) (hc : CuK X (k + 1) w') (_e : n.self = pn) (g : N3 → Bool) : PtOn X (k + 1) (kidG g n) w' := by
  have hN := NodeAt.of ok hn
  have hm := List.mem_of_getElem? hn
  obtain ⟨_, a, b⟩ := ok.rows.okn n hm
  refine ⟨hc, fun hs => ?_, hk, hN.kid_leads g, by unfold kidG; split <;> assumption⟩
  rcases hN.kid_leads g with h1 | h1
  · rw [hs] at h1; cases h1
  · obtain ⟨j, x, _, hx, hxp, _⟩ := findL_some h1
    have := ok.rows.child_before hn hx (hN.kid_level g hs) hxp
    exact ⟨j, x, by omega, hx, hxp⟩
theorem PtOn.miss {X : KX} {k pn : Nat} {w w' : World} (h : PtOn X k pn w) (hk : k < X.d.m) (hn : X.d.P[X.d.m - 1 - k]? = some n) (hc : CuK X (k + 1) w') (e : ¬ n.self = pn) : PtOn X (k + 1) pn w' := by
  refine ⟨hc, fun hs2 => ?_, hk, h.leads, h.lt⟩
  obtain ⟨j, x, hj, hx, hxp⟩ := h.reach hs2
  refine ⟨j, x, ?_, hx, hxp⟩
  rcases Nat.lt_or_ge j (X.d.m - (k + 1)) with h3 | h3
  · exact h3
  · have : j = X.d.m - 1 - k := by omega
    subst this
    rw [hn] at hx
    injection hx with hx
    rw [hx] at e
    exact absurd hxp e
end

def twX (c : Cx) (name : ByteArray) (d : Dg) (cb b : Nat) (G0 : Nat → Prop) (s0 : RSt) (H : Nat → Prop) (Y : World) (Q : Nat) : KX :=
  { c := c, name := name, L := recsD d, up := false, d := d, P := d.P.reverse, tl := [], cb := cb, b := b, G0 := G0, s0 := s0, H := H, Y := Y, Q := Q }
section
variable {c : Cx} {w w' : World} {G : Nat → Prop} {s s' : RSt} {fs : List (ByteArray × AFile)} {name : ByteArray} {d : Dg} {H : Nat → Prop}
theorem twX_ok {cb b Q j : Nat} {h : Int} {G0 : Nat → Prop} {s0 : RSt} {Y : World} (P : AkP c fs name d s) (hw : Went j h s s0) : KOk (twX c name d cb b G0 s0 H Y Q) fs := {
  tape := P.tape
  calm := hw.calm P.calm
  at_ := down_ok P
  len := by show d.P.reverse.length = d.m; rw [List.length_reverse]; exact P.ok.rows.len
  lt := Nat.le_of_lt P.ok.rows.lt
  vars := P.ok.rows.vars
  okn n hn := by
    have hn : n ∈ d.P.reverse := hn
    obtain ⟨a, b, e⟩ := P.ok.rows.okn n (List.mem_reverse.1 hn)
    exact ⟨a, b, e, Nat.succ_pos _⟩ }
theorem twX_start {cb b Q q : Nat} {G0 : Nat → Prop} {s0 : RSt} {Y : World} {x : RdSt} (hc : CurAt c Y cb b G0 s0 x { up := false, vars := d.v, root := d.r, nodes := d.m, given := 0, last := ⟨0, 0, 0⟩, dead := 0, done := false }) (hv : RdLive c name 2 (recsD d) true x q (d.P.map N3.rec4).reverse) (hq : q ≤ Q) (hH : ∀ z, H z → ¬ G0 z ∧ z < Y.heap.size) (hE : ∀ z, H z → Off c.E (fun _ => False) z) : CuK (twX c name d cb b G0 s0 H Y Q) 0 Y := by
  refine CuK.start (X := twX c name d cb b G0 s0 H Y Q) hc ?_ hq hH hE
  have e : (twX c name d cb b G0 s0 H Y Q).rem 0 = (d.P.map N3.rec4).reverse := by
    show (d.P.reverse.drop 0).map N3.rec4 ++ [] = _
    rw [List.drop_zero, List.append_nil, List.map_reverse]
  rw [e]
  exact hv
structure DecI (X : KX) (g : N3 → Bool) (fv : Nat) (caps : Array Value) (I : Nat → World → Prop) : Prop where
  ent : ∀ (a b c : Nat) W, (callFunc fv (#[ndV a b c] ++ caps)).run Tryz.prog W = .ok (.enter fv (#[ndV a b c] ++ caps)) W
  far : ∀ p W W', I p W → Keep (fun z => ¬ X.H z) W W' → I p W'
  call : ∀ (n : N3) W, NodeAt X.d n → n.self < 18446744073709551616 → n.low < 18446744073709551616 → n.high < 18446744073709551616 → I n.self W → Calls Tryz.prog fv (#[ndV n.self n.low n.high] ++ caps) W fun e W' => e = .returned (.int .i64 (if g n = true then 1 else 0)) ∧ I (kidG g n) W' ∧ Keep X.H W W'
end
end Go.Proofs.YtadipinnbehhhaaGreatDoor
