/- TallyCubes: index, over, Slim. -/
import Derived.Test.YtadipinnbehhhaaGreatDoorCubesRowAR
import Derived.Test.YtadipinnbehhhaaGreatDoorCubesRowAS
namespace Go.Proofs.YtadipinnbehhhaaGreatDoor
open Go.RowKit

theorem indexK_lt {f : FnN} (ok : FnOk f) (l : List Nat) (i : Nat) : ∀ k, indexK f l i k < 2 ^ f.at_.length
  | 0 => Nat.two_pow_pos _
  | k + 1 => by
    have ih := indexK_lt ok l i k
    unfold indexK
    split
    · exact ih
    · split
      · exact ih
      · rename_i p hp
        split
        · exact Nat.or_lt_two_pow ih (Nat.pow_lt_pow_right (by omega) (placeN_some hp).2)
        · exact ih
theorem indexK_step {f : FnN} {l : List Nat} {i q y : Nat} (h : l[q]? = some y) : indexK f l i (q + 1) = match placeN f y with
    | none => indexK f l i q
    | some p => if i.testBit q = true then indexK f l i q ||| 2 ^ p else indexK f l i q := by
  conv => lhs; unfold indexK
  simp only [h]
  cases placeN f y <;> rfl
theorem shr_bit (i j : Nat) : (i >>> j) &&& 1 = if i.testBit j = true then 1 else 0 := by
  rw [Nat.testBit, Nat.and_comm]
  have := Nat.and_one_is_mod (i >>> j)
  have h2 : i >>> j % 2 < 2 := Nat.mod_lt _ (by omega)
  rw [Nat.and_comm] at this
  rw [this]
  rcases Nat.lt_or_ge (i >>> j % 2) 1 with h | h
  · have : i >>> j % 2 = 0 := by omega
    simp [this]
  · have : i >>> j % 2 = 1 := by omega
    simp [this]
theorem bit_at (i q : Nat) (hi : i ≤ 65536) : bits .and .i64 ((i : Int) / 2 ^ q) 1 = if i.testBit q = true then 1 else 0 := by
  have e : ((i : Int) / 2 ^ q) = ((i >>> q : Nat) : Int) := by
    rw [Nat.shiftRight_eq_div_pow]
    simp
  have hle : i >>> q ≤ i := by rw [Nat.shiftRight_eq_div_pow]; exact Nat.div_le_self _ _
  rw [e]
  obtain ⟨x, hx⟩ : ∃ x, x = i >>> q := ⟨_, rfl⟩
  have hs := shr_bit i q
  rw [← hx] at hs hle ⊢
  have h2 := i64_and_nat x 1 (by omega) (by omega)
  rw [hs] at h2
  refine Eq.trans ?_ (h2.trans ?_)
  · exact congrArg (bits .and .i64 (x : Int)) (by simp)
  · cases i.testBit q <;> simp
theorem shl_one64 {j : Nat} (h : j ≤ 16) : wrap64 (2 ^ j : Int) = ((2 ^ j : Nat) : Int) := by
  have h1 := shl_one h
  rw [iwrap] at h1
  unfold wrap64
  exact h1
set_option maxRecDepth 100000 in
set_option maxHeartbeats 4000000 in
theorem index_any (f : FnN) (ok : FnOk f) (A : Option Addr) (ca : Nat) (B : Option Addr) (cb : Nat) (l : List Nat) (C : Option Addr) (cc : Nat) (i : Nat) (w : World) (h : FnAt w f A B) (hl : Rd w C (nats l)) (hs : Spotless C) (hll : l.length ≤ 16) (hi : i ≤ 65536) :
    Calls Tryz.prog 288 #[fnV f A ca B cb, .slice C l.length cc, .int .i64 i] w fun e w' => e = .returned (.int .i64 (indexN f l i)) ∧ Keep Nil w w' := by
  have HPL := Hid.intro_ (fun x W (k : Keep Nil w W) => place_any f A ca B cb x W (h.nil k) ok.le)
  obtain ⟨n, hn⟩ : ∃ n, n = f.n := ⟨_, rfl⟩
  obtain ⟨N, hN⟩ : ∃ N, N = f.at_.length := ⟨_, rfl⟩
  obtain ⟨M, hM⟩ : ∃ M, M = f.bits.length := ⟨_, rfl⟩
  obtain ⟨L, hL⟩ : ∃ L, L = l.length := ⟨_, rfl⟩
  obtain ⟨T, hT⟩ : ∃ T, T = indexN f l i := ⟨_, rfl⟩
  obtain ⟨W0, hW0⟩ : ∃ W0, W0 = w.alloc (.cells #[.int .i64 n, .slice A N ca, .slice B M cb] 226) := ⟨_, rfl⟩
  have HK0 := Hid.intro_ (show Keep Nil w W0 by rw [hW0]; exact (Keep.refl Nil w).alloc _)
  have hb0 : Blk W0 w.heap.size 226 #[.int .i64 n, .slice A N ca, .slice B M cb] := by rw [hW0]; exact Blk.new w _ _
  have HB := Hid.intro_ hb0
  have HR := Hid.intro_ (h.nil HK0.out)
  have HL := Hid.intro_ (hl.keep HK0.out (fun _ _ _ h => h))
  have HLN := Hid.intro_ hL
  have HT := Hid.intro_ hT
  have HOK := Hid.intro_ ok
  unfold fnV at HPL ⊢
  rw [← hn, ← hN, ← hM] at HPL
  rw [← hn, ← hN, ← hM, ← hT, ← hL]
  rw [← hL] at hll
  clear h hb0 hn hN hM hT ok hl hL
  go_enter Tryz.func288, Tryz.ntmps288
  go_upto_region 1 with (fail)
  rw [← hW0]
  clear hW0
  go_wp2_with fail
  go_loopw [7, 8] (fun s j wz => ∃ (q k : Nat), q ≤ L ∧ s = .int .i64 k ∧ j = .int .i64 q ∧ Hid (k = indexK f l i q) ∧ k < 65536 ∧ Hid (Keep Nil W0 wz)) (fun _ j _ => L - (intOf j).toNat)
  case atStart => exact ⟨0, 0, Nat.zero_le _, rfl, rfl, Hid.intro_ rfl, by omega, Hid.intro_ (Keep.refl _ _)⟩
  case round =>
    obtain ⟨q, k, hqm, rfl, rfl, HKK, hk, HKZ⟩ := hrel
    have hbz := HB.out.keep HKZ.out (fun h => h)
    have c0 : wr.cell? ⟨w.heap.size, 0, none⟩ = some (.int .i64 n) := hbz.at_ 0
    have c1 : wr.cell? ⟨w.heap.size, 1, none⟩ = some (.slice A N ca) := hbz.at_ 1
    have c2 : wr.cell? ⟨w.heap.size, 2, none⟩ = some (.slice B M cb) := hbz.at_ 2
    clear hbz
    by_cases hlq : q < L
    · obtain ⟨y, hy⟩ : ∃ y, l[q]? = some y := ⟨_, List.getElem?_eq_getElem (by have := HLN.out; omega)⟩
      obtain ⟨g, o, hAe, p0⟩ := nat_at (HL.out.keep HKZ.out (fun _ _ _ h => h)) hy hs
      subst hAe
      have hqi : (q : Int) < (L : Int) := by omega
      have hq0 : (0 : Int) ≤ (q : Int) := by omega
      have HHY := Hid.intro_ (HPL.out y wr.drew ((HK0.out.then_ HKZ.out).drew))
      have HKS := Hid.intro_ (show indexK f l i (q + 1) = match placeN f y with | none => k | some p => if i.testBit q = true then k ||| 2 ^ p else k by rw [HKK.out]; exact indexK_step hy)
      have HKL := Hid.intro_ (show indexK f l i (q + 1) < 65536 from Nat.lt_of_lt_of_le (indexK_lt HOK.out l i (q + 1)) (pow_small HOK.out.le))
      clear hy
      go_upto_region 5 with (fail)
      go_region_held3 (fun w' => w'.cell? ⟨w.heap.size, 0, none⟩ = some (.int .i64 n) ∧ w'.cell? ⟨w.heap.size, 1, none⟩ = some (.slice A N ca) ∧ w'.cell? ⟨w.heap.size, 2, none⟩ = some (.slice B M cb) ∧ w'.cell? ⟨g, o + q, none⟩ = some (.int .i64 y))
        (first | exact ⟨c0, c1, c2, p0⟩ | exact hS2.out | go_keep)
        (first
          | (go_at_call 291; refine HHY.out.mono ?_; rintro e w2 ⟨rfl, k2⟩
             have hS2 := Hid.intro_ (And.intro (cell_keep (w := wr.drew) c0 k2 (fun h => h)) (And.intro (cell_keep (w := wr.drew) c1 k2 (fun h => h)) (And.intro (cell_keep (w := wr.drew) c2 k2 (fun h => h)) (cell_keep (w := wr.drew) p0 k2 (fun h => h)))))
             have K2 := Hid.intro_ k2
             clear k2))
      have HKW := Hid.intro_ (HKZ.out.drew.then_ K2.out)
      clear c0 c1 c2 p0
      cases hp : placeN f y with
      | none =>
        have hpl : plN f y = -1 := by unfold plN; rw [hp]
        have HE := Hid.intro_ (show k = indexK f l i (q + 1) by rw [HKS.out, hp])
        rw [hpl]
        clear hpl hp
        go_wp2_with fail
        go_roundw
        case rel => exact ⟨q + 1, k, by omega, rfl, by go_num, HE, hk, HKW⟩
        case measure => simp [intOf]; omega
      | some p =>
        have hpl : plN f y = p := by unfold plN; rw [hp]
        have hp16 : p ≤ 16 := by have := (placeN_some hp).2; have := HOK.out.le; omega
        have hpd : decide ((p : Int) < 0) = false := decide_eq_false (by omega)
        have hpg : decide ((0 : Int) ≤ (p : Int)) = true := decide_eq_true (by omega)
        rw [hpl]
        obtain ⟨pw, hpw⟩ : ∃ pw, pw = 2 ^ p := ⟨_, rfl⟩
        have hsh : wrap64 (2 ^ p : Int) = (pw : Int) := by rw [hpw]; exact shl_one64 hp16
        have hsh2 : IntKind.i64.wrap (2 ^ p : Int) = (pw : Int) := by rw [hpw]; exact shl_one hp16
        have hpp : pw ≤ 65536 := by rw [hpw]; exact pow_small hp16
        obtain ⟨z, hz⟩ : ∃ z, z = k ||| pw := ⟨_, rfl⟩
        have hor : bits .or .i64 (k : Int) (pw : Int) = (z : Int) := by rw [hz]; exact i64_or_nat k pw (by omega) (by omega)
        have hbt := bit_at i q hi
        cases hb : i.testBit q with
        | false =>
          rw [hb] at hbt
          simp only [Bool.false_eq_true, if_false] at hbt
          have HE := Hid.intro_ (show k = indexK f l i (q + 1) by rw [HKS.out, hp]; simp [hb])
          clear hp hpl hpw hz hb
          go_wp2_with fail
          go_roundw
          case rel => exact ⟨q + 1, k, by omega, rfl, by go_num, HE, hk, HKW⟩
          case measure => simp [intOf]; omega
        | true =>
          rw [hb] at hbt
          simp only [if_true] at hbt
          have HE := Hid.intro_ (show z = indexK f l i (q + 1) by rw [HKS.out, hp, hz, hpw]; simp [hb])
          have hzl : z < 65536 := by rw [HE.out]; exact HKL.out
          clear hp hpl hpw hz hb
          go_wp2_with fail
          go_roundw
          case rel => exact ⟨q + 1, z, by omega, rfl, by go_num, HE, hzl, HKW⟩
          case measure => simp [intOf]; omega
    · obtain rfl : q = L := by omega
      have HF := Hid.intro_ (show k = T by rw [HT.out, HKK.out]; unfold indexN; rw [← HLN.out])
      go_wp2_with fail
      go_ret
      exact ⟨by rw [HF.out] <;> rfl, HK0.out.then_ HKZ.out⟩
theorem made_bools (n : Nat) : (madeCells (Value.bool false).cells (n * 1)).toList = boolsV (List.replicate n false) := by
  rw [Nat.mul_one]
  unfold boolsV
  rw [List.map_replicate]
  exact toList_madeCells_one _ _
def OvMade (W0 : World) (n L cc pw : Nat) (C : Option Addr) (v5 : Value) (wd : World) : Prop :=
  ∃ T g, v5 = .pointer (some ⟨T, 0, none⟩) ∧ Keep Nil W0 wd ∧ Blk wd T 226 #[.int .i64 n, .slice C L cc, .slice (some ⟨g, 0, none⟩) pw pw] ∧ RowV wd g 4 (boolsV (List.replicate pw false)) ∧ W0.heap.size ≤ T ∧ W0.heap.size ≤ g ∧ ¬ T = g
theorem info_bool : (Tryz.prog.info? 4).map (fun i => (i.zero, i.size, i.bytes)) = some (some (.bool false), 1, 1) := by kernel_rfl
structure OvPost (w : World) (f : FnN) (l : List Nat) (C : Option Addr) (cc : Nat) (e : Ending) (w' : World) : Prop where mk ::
  out : ∃ g, e = .returned (fnV (overN f l) C cc (some ⟨g, 0, none⟩) (2 ^ l.length)) ∧ FnAt w' (overN f l) C (some ⟨g, 0, none⟩) ∧ Keep Nil w w' ∧ w.heap.size ≤ g
set_option maxRecDepth 100000 in
set_option maxHeartbeats 8000000 in
theorem over_any (f : FnN) (ok : FnOk f) (A : Option Addr) (ca : Nat) (B : Option Addr) (cb : Nat) (l : List Nat) (C : Option Addr) (cc : Nat) (w : World) (h : FnAt w f A B) (hl : Rd w C (nats l)) (hs : Spotless C) (hll : l.length ≤ 16) :
    Calls Tryz.prog 258 #[fnV f A ca B cb, .slice C l.length cc] w (OvPost w f l C cc) := by
  have HIX := Hid.intro_ (fun i (hi : i ≤ 65536) W (k : Keep Nil w W) => index_any f ok A ca B cb l C cc i W (h.nil k) (hl.keep k (fun _ _ _ h => h)) hs hll hi)
  obtain ⟨n, hn⟩ : ∃ n, n = f.n := ⟨_, rfl⟩
  obtain ⟨N, hN⟩ : ∃ N, N = f.at_.length := ⟨_, rfl⟩
  obtain ⟨M, hM⟩ : ∃ M, M = f.bits.length := ⟨_, rfl⟩
  obtain ⟨L, hL⟩ : ∃ L, L = l.length := ⟨_, rfl⟩
  obtain ⟨W0, hW0⟩ : ∃ W0, W0 = (w.alloc (.cells #[.int .i64 n, .slice A N ca, .slice B M cb] 226)).alloc (.cells #[.int .i64 0, .slice none 0 0, .slice none 0 0] 226) := ⟨_, rfl⟩
  have HK0 := Hid.intro_ (show Keep Nil w W0 by rw [hW0]; exact ((Keep.refl Nil w).alloc _).alloc _)
  have hb0 : Blk W0 w.heap.size 226 #[.int .i64 n, .slice A N ca, .slice B M cb] := by rw [hW0]; exact (Blk.new w _ _).keep ((Keep.refl Nil _).alloc _) (fun h => h)
  have hr0 : Blk W0 (w.heap.size + 1) 226 #[.int .i64 0, .slice none 0 0, .slice none 0 0] := by rw [hW0]; exact Blk.new_at _ _ _ (by simp)
  have c0 : W0.cell? ⟨w.heap.size, 0, none⟩ = some (.int .i64 n) := hb0.at_ 0
  obtain ⟨pw, hpw⟩ : ∃ pw, pw = 2 ^ L := ⟨_, rfl⟩
  have hL16 : L ≤ 16 := by rw [hL]; exact hll
  have hsh : wrap64 (2 ^ L : Int) = (pw : Int) := by rw [hpw]; exact shl_one64 hL16
  have hsh2 : IntKind.i64.wrap (2 ^ L : Int) = (pw : Int) := by rw [hpw]; exact shl_one hL16
  have hpp : pw ≤ 65536 := by rw [hpw]; exact pow_small hL16
  have HPW := Hid.intro_ hpw
  have HB := Hid.intro_ hb0
  have HR0 := Hid.intro_ hr0
  have HR := Hid.intro_ (h.nil HK0.out)
  have HL := Hid.intro_ (hl.keep HK0.out (fun _ _ _ h => h))
  have HL0 := Hid.intro_ hl
  have HLN := Hid.intro_ hL
  have HM := Hid.intro_ hM
  have HOK := Hid.intro_ ok
  have HS := Hid.intro_ hs
  unfold fnV at HIX ⊢
  rw [← hn, ← hN, ← hM, ← hL] at HIX
  rw [← hn, ← hN, ← hM, ← hL]
  have HNN := Hid.intro_ hn
  clear h hb0 hr0 hn hN hM ok hl hL hpw hs hll
  go_enter Tryz.func258, Tryz.ntmps258
  go_upto_region 1 with (fail)
  rw [← hW0]
  clear hW0
  obtain ⟨ib, hib, hy0, hy1, hy2⟩ := info_parts info_bool
  have huw : IntKind.u64.wrap (L : Int) = (L : Int) := IntWalk.u64_in _ (by omega)
  have hmn : min L 64 = L := by omega
  obtain ⟨w3, hr3, ho3, hg3⟩ := run_make_full (P := Tryz.prog) W0.drew W0.heap.size 92 4 ib (.bool false) 1 Tryz.underlying92 hib hy0 hy1 .i64 .i64 pw (by rw [hy2]; omega) (by unfold maxLen; omega) (Nat.le_refl _)
  obtain ⟨w4, hr4, ho4, hg4⟩ := run_make_full (P := Tryz.prog) (W0.alloc (.cells #[.int .i64 0, .slice none 0 0, .slice none 0 0] 226)).drew W0.heap.size 92 4 ib (.bool false) 1 Tryz.underlying92 hib hy0 hy1 .i64 .i64 pw (by rw [hy2]; omega) (by unfold maxLen; omega) (by simp)
  have hr3' : Sem.run Tryz.prog (Instr.makeSlice 92 (.int .i64 pw) (.int .i64 pw)) W0.drew = .ok (.slice (some ⟨W0.heap.size, 0, none⟩) pw pw) w3 := hr3
  have hr4' : Sem.run Tryz.prog (Instr.makeSlice 92 (.int .i64 pw) (.int .i64 pw)) (W0.alloc (.cells #[.int .i64 0, .slice none 0 0, .slice none 0 0] 226)).drew = .ok (.slice (some ⟨W0.heap.size + 1, 0, none⟩) pw pw) w4 := by
    have := hr4
    simpa using this
  have hr5' : Sem.run Tryz.prog (Instr.makeSlice 92 (.int .i64 pw) (.int .i64 pw)) (W0.drew.alloc (.cells #[.int .i64 0, .slice none 0 0, .slice none 0 0] 226)) = .ok (.slice (some ⟨W0.heap.size + 1, 0, none⟩) pw pw) w4 := hr4'
  have K3 := Hid.intro_ ((Keep.refl Nil W0).drew.then_ (Keep.of_grown_none hg3))
  have K4 := Hid.intro_ (((Keep.refl Nil W0).alloc _).drew.then_ (Keep.of_grown_none hg4))
  have b4 := ((Blk.new W0 226 #[.int .i64 0, .slice none 0 0, .slice none 0 0]).drew).keep (Keep.of_grown_none hg4) (fun h => h)
  have z0 : w4.cell? ⟨W0.heap.size, 0, none⟩ = some (.int .i64 0) := b4.at_ 0
  have z1 : w4.cell? ⟨W0.heap.size, 1, none⟩ = some (.slice none 0 0) := b4.at_ 1
  have z2 : w4.cell? ⟨W0.heap.size, 2, none⟩ = some (.slice none 0 0) := b4.at_ 2
  have zf := b4.fr 0
  have zf1 := b4.fr 1
  have zf2 := b4.fr 2
  rw [made_bools] at ho3 ho4
  have HR3 := Hid.intro_ (own_full (g := W0.heap.size) ho3 (by simp [boolsV]))
  have HR4 := Hid.intro_ (own_full (g := W0.heap.size + 1) (by simpa using ho4) (by simp [boolsV]))
  have HB4 := Hid.intro_ b4
  have c3 : w3.cell? ⟨w.heap.size, 0, none⟩ = some (.int .i64 n) := cell_keep c0 K3.out (fun h => h)
  have c4 : w4.cell? ⟨w.heap.size, 0, none⟩ = some (.int .i64 n) := cell_keep c0 K4.out (fun h => h)
  have hne : ¬ w.heap.size = W0.heap.size := by have := HB.out.lt; omega
  have hne2 : ¬ W0.heap.size = w.heap.size := fun e => hne e.symm
  clear hr3 hr4 ho3 ho4 hg3 hg4 b4
  go_cut [5] from 8 to 16 (fun v5 wd => OvMade W0 n L cc pw C v5 wd)
  case first =>
    go_region_held3 (fun w' => w'.cell? ⟨w.heap.size, 0, none⟩ = some (.int .i64 n)) (first | exact c0 | exact c3 | exact c4 | exact cell_keep c0 ((Keep.refl Nil W0).alloc _) (fun h => h) | exact cell_keep c3 ((Keep.refl Nil w3).alloc _) (fun h => h) | go_keep) ((fail))
    all_goals go_wp2_with fail
    all_goals go_meet
    · exact ⟨w3.heap.size, W0.heap.size, rfl, K3.out.alloc _, Blk.new w3 _ _, HR3.out.keep ((Keep.refl Nil w3).alloc _) (fun h => h), K3.out.size, Nat.le_refl _, by have := HR3.out.lt; omega⟩
    · exact ⟨W0.heap.size, W0.heap.size + 1, rfl, ((K4.out.setCell (p := ⟨W0.heap.size, 0, none⟩) (fun h => absurd h (Nat.lt_irrefl _)) _).setCell (p := ⟨W0.heap.size, 1, none⟩) (fun h => absurd h (Nat.lt_irrefl _)) _).setCell (p := ⟨W0.heap.size, 2, none⟩) (fun h => absurd h (Nat.lt_irrefl _)) _, ((HB4.out.set_ 0 _).set_ 1 _).set_ 2 _,
        HR4.out.keep (((((Keep.refl (fun z => z = W0.heap.size) w4).setCell (p := ⟨W0.heap.size, 0, none⟩) (fun _ => rfl) _).setCell (p := ⟨W0.heap.size, 1, none⟩) (fun _ => rfl) _).setCell (p := ⟨W0.heap.size, 2, none⟩) (fun _ => rfl) _)) (fun e => by have e : W0.heap.size + 1 = W0.heap.size := e; omega), Nat.le_refl _, by omega, by omega⟩
  obtain ⟨T, g, rfl, kT, bT, rT, hT, hg, hTg⟩ := hcut
  have HKT := Hid.intro_ kT
  have HBT := Hid.intro_ bT
  have HB1 := Hid.intro_ (HB.out.keep kT (fun h => h))
  have HRS := Hid.intro_ (HR0.out.keep kT (fun h => h))
  have hwT : ¬ w.heap.size = g := by have := HB.out.lt; omega
  have hwT2 : ¬ w.heap.size + 1 = g := by have := HR0.out.lt; omega
  have HRW := Hid.intro_ rT
  have HTG := Hid.intro_ (And.intro hTg (And.intro hwT (And.intro hwT2 (And.intro hg (And.intro hT (And.intro HB.out.lt HR0.out.lt))))))
  clear c0 c3 c4 hr3' hr4' hr5' K3 K4 z0 z1 z2 zf zf1 zf2 HR3 HR4 HB4 hne hne2 kT bT rT hT hg hTg hwT hwT2 hsh hsh2 huw hmn
  go_wp2_with fail
  go_loopw [6] (fun i wz => ∃ (q : Nat) (bl : List Bool), q ≤ pw ∧ i = .int .i64 q ∧ Hid (RowV wz g 4 (boolsV bl)) ∧ Hid (bl.length = pw ∧ ∀ j, j < q → bl[j]? = some (f.bits.getD (indexN f l j) false)) ∧ Hid (Keep (fun z => z = g) wc wz)) (fun i _ => pw - (intOf i).toNat)
  case atStart => exact ⟨0, _, Nat.zero_le _, rfl, HRW, Hid.intro_ ⟨by simp, fun j hj => by omega⟩, Hid.intro_ (Keep.refl _ _)⟩
  case round =>
    obtain ⟨q, bl, hqm, rfl, HRZ, HBL, HKZ⟩ := hrel
    obtain ⟨t1, t2, t3, t4, t5, t6, t7⟩ := HTG.out
    have kzn : Keep Nil W0 wr := HKT.out.trans HKZ.out (fun z hz e => by have e : z = g := e; omega)
    have HKN := Hid.intro_ kzn
    have b5 := HBT.out.keep HKZ.out t1
    have c2 : wr.cell? ⟨T, 2, none⟩ = some (.slice (some ⟨g, 0, none⟩) pw pw) := b5.at_ 2
    have b1 := HB1.out.keep HKZ.out t2
    have d0 : wr.cell? ⟨w.heap.size, 0, none⟩ = some (.int .i64 n) := b1.at_ 0
    have d1 : wr.cell? ⟨w.heap.size, 1, none⟩ = some (.slice A N ca) := b1.at_ 1
    have d2 : wr.cell? ⟨w.heap.size, 2, none⟩ = some (.slice B M cb) := b1.at_ 2
    by_cases hlq : q < pw
    · obtain ⟨k, hk⟩ : ∃ k, k = indexN f l q := ⟨_, rfl⟩
      have hkM : k < M := by rw [HM.out, HOK.out.len, hk]; exact indexK_lt HOK.out l q _
      have hM16 : M ≤ 65536 := by rw [HM.out, HOK.out.len]; exact pow_small HOK.out.le
      obtain ⟨bk, hbk⟩ : ∃ bk, f.bits[k]? = some bk := ⟨_, List.getElem?_eq_getElem (by have := HM.out; omega)⟩
      have HIQ := Hid.intro_ (HIX.out q (by omega) wr (HK0.out.then_ kzn))
      rw [← hk] at HIQ
      have HVAL := Hid.intro_ (show f.bits.getD (indexN f l q) false = bk by rw [← hk, List.getD_eq_getElem?_getD, hbk]; rfl)
      have HBK := Hid.intro_ hbk
      clear b5 b1 kzn t1 t2 t3 t4 t5 t6 t7 hk hbk
      go_upto_region 5 with (fail)
      go_wp2_with fail
      refine HIQ.out.mono ?_
      rintro e w5 ⟨rfl, k5⟩
      have e2 : w5.cell? ⟨T, 2, none⟩ = some (.slice (some ⟨g, 0, none⟩) pw pw) := cell_keep c2 k5 (fun h => h)
      have g2 : w5.cell? ⟨w.heap.size, 2, none⟩ = some (.slice B M cb) := cell_keep d2 k5 (fun h => h)
      obtain ⟨gb, ob, hBe, p0⟩ := bool_at ((HR.out.nil HKN.out).nil k5).lb HBK.out HR.out.sb
      subst hBe
      have hr5 := HRZ.out.keep k5 (fun h => h)
      obtain ⟨b0, hb0⟩ : ∃ b0, bl[q]? = some b0 := ⟨_, List.getElem?_eq_getElem (by have := HBL.out.1; omega)⟩
      have q0 : w5.cell? ⟨g, q, none⟩ = some (.bool b0) := hr5.at_ (by unfold boolsV; rw [List.getElem?_map, hb0]; rfl)
      have qf := hr5.fr q
      have HR5 := Hid.intro_ hr5
      have HK5 := Hid.intro_ k5
      have hkM0 : (0 : Int) ≤ (k : Int) := by omega
      have hkM1 : (k : Int) < (M : Int) := by omega
      have hqp0 : (0 : Int) ≤ (q : Int) := by omega
      have hqp1 : (q : Int) < (pw : Int) := by omega
      clear hr5 k5 hb0 c2 d0 d1 d2
      go_wp2_with fail
      go_still_tail 9, (by kernel_rfl)
      change wpList _ _ _ _ _ w5.drew
      go_wp2_with fail
      have kst : Keep (fun z => z = g) wr (w5.drew.setCell ⟨g, q, none⟩ (.bool bk)) := ((HK5.out.drew).mono (fun _ _ h => h.elim)).then_ ((Keep.refl (fun z => z = g) w5.drew).setCell (p := ⟨g, q, none⟩) (fun _ => rfl) _)
      have KST := Hid.intro_ kst
      clear kst e2 g2 p0 q0 qf hkM0 hkM1 hqp0 hqp1
      go_wp2_with fail
      go_roundw
      case rel => exact ⟨q + 1, bl.set q bk, by omega, by go_num, Hid.intro_ (by
          have := RowV.set (w := w5.drew) HR5.out q (.bool bk)
          rw [show (boolsV bl).set q (.bool bk) = boolsV (bl.set q bk) by unfold boolsV; rw [List.map_set]] at this
          exact this), Hid.intro_ ⟨by rw [List.length_set]; exact HBL.out.1, fun j hj => by
            rcases Nat.lt_or_ge j q with h4 | h4
            · rw [List.getElem?_set_ne (by omega)]
              exact HBL.out.2 j h4
            · have : j = q := by omega
              subst this
              rw [List.getElem?_set_self (by have := HBL.out.1; omega), HVAL.out]⟩, Hid.intro_ (HKZ.out.then_ KST.out)⟩
      case measure => simp [intOf]; omega
    · obtain rfl : q = pw := by omega
      have e0 : wr.cell? ⟨T, 0, none⟩ = some (.int .i64 n) := b5.at_ 0
      have e1 : wr.cell? ⟨T, 1, none⟩ = some (.slice C L cc) := b5.at_ 1
      have br := HRS.out.keep HKZ.out t3
      have r0 : wr.cell? ⟨w.heap.size + 1, 0, none⟩ = some (.int .i64 0) := br.at_ 0
      have r1 : wr.cell? ⟨w.heap.size + 1, 1, none⟩ = some (.slice none 0 0) := br.at_ 1
      have r2 : wr.cell? ⟨w.heap.size + 1, 2, none⟩ = some (.slice none 0 0) := br.at_ 2
      have f0 := br.fr 0
      have f1 := br.fr 1
      have f2 := br.fr 2
      have HBRR := Hid.intro_ br
      clear b5 b1 d0 d1 d2 br kzn t1 t2 t3 t4 t5 t6 t7
      go_wp2_with fail
      obtain ⟨X, hX⟩ : ∃ X, X = ((wr.setCell ⟨w.heap.size + 1, 0, none⟩ (.int .i64 n)).setCell ⟨w.heap.size + 1, 1, none⟩ (.slice C L cc)).setCell ⟨w.heap.size + 1, 2, none⟩ (.slice (some ⟨g, 0, none⟩) q q) := ⟨_, rfl⟩
      rw [← hX]
      have bX : Blk X (w.heap.size + 1) 226 #[.int .i64 n, .slice C L cc, .slice (some ⟨g, 0, none⟩) q q] := by rw [hX]; exact ((HBRR.out.set_ 0 _).set_ 1 _).set_ 2 _
      have kX : Keep (fun z => z = w.heap.size + 1) wr X := by rw [hX]; exact (((Keep.refl (fun z => z = w.heap.size + 1) wr).setCell (p := ⟨w.heap.size + 1, 0, none⟩) (fun _ => rfl) _).setCell (p := ⟨w.heap.size + 1, 1, none⟩) (fun _ => rfl) _).setCell (p := ⟨w.heap.size + 1, 2, none⟩) (fun _ => rfl) _
      have y0 : X.cell? ⟨w.heap.size + 1, 0, none⟩ = some (.int .i64 n) := bX.at_ 0
      have y1 : X.cell? ⟨w.heap.size + 1, 1, none⟩ = some (.slice C L cc) := bX.at_ 1
      have y2 : X.cell? ⟨w.heap.size + 1, 2, none⟩ = some (.slice (some ⟨g, 0, none⟩) q q) := bX.at_ 2
      have HKX := Hid.intro_ kX
      have hfin : Hid (OvPost w f l C cc (.returned (.agg #[.int .i64 n, .slice C L cc, .slice (some ⟨g, 0, none⟩) q q])) X) := by
        obtain ⟨t1, t2, t3, t4, t5, t6, t7⟩ := HTG.out
        have hbits : bl = (overN f l).bits := by
          refine List.ext_getElem? (fun j => ?_)
          unfold overN
          simp only
          rw [List.getElem?_map]
          by_cases hj : j < q
          · rw [HBL.out.2 j hj, List.getElem?_range (by rw [← HLN.out, ← HPW.out]; exact hj)]
            rfl
          · rw [List.getElem?_eq_none (by have := HBL.out.1; omega), List.getElem?_eq_none (by rw [List.length_range, ← HLN.out, ← HPW.out]; omega)]
            rfl
        have hkn : Keep Nil w wr := HK0.out.then_ HKN.out
        have hkX : Keep Nil w X := hkn.trans HKX.out (fun z hz e => by have e : z = w.heap.size + 1 := e; omega)
        have hgX : ¬ g = w.heap.size + 1 := fun e => t3 e.symm
        refine ⟨⟨g, ?_, ⟨HL0.out.keep hkX (fun _ _ _ h => h), HS.out, ?_, fun a e => by injection e with e; rw [← e]⟩, hkX, by have := HK0.out.size; omega⟩⟩
        · unfold fnV overN
          simp only [List.length_map, List.length_range]
          rw [← HNN.out, ← HLN.out, ← HPW.out]
        · rw [← hbits]
          exact (HRZ.out.keep HKX.out hgX).rd
      clear bX kX hX HKX HKN e0 e1 c2 r0 r1 r2 f0 f1 f2
      clear HIX HRZ HBL HKZ HTG HKT HBT HB1 HRS HRW HBRR HR0 HR HB HL HL0 HLN HM HOK HS HNN HPW HK0
      refine bodyPost_ret (v := .agg #[.int .i64 n, .slice C L cc, .slice (some ⟨g, 0, none⟩) q q]) (by simp [results, Tryz.results258, go_sem, y0, y1, y2]) rfl hfin.out
theorem row_base {w : World} {base n c m size : Nat} {t : TypeId} {C : Option Addr} {xs : List Value} (h : w.ownsRow base t size (.slice C n c) m xs) : ∀ a, C = some a → base ≤ a.block := by
  intro a e
  subst e
  rcases h.2 with ⟨e, _⟩ | ⟨g, cap, cur, e, hb, _⟩
  · cases e
  · simp only [Value.slice.injEq, Option.some.injEq] at e
    rw [e.1]
    exact hb
structure SlPost (w : World) (f : FnN) (e : Ending) (w' : World) : Prop where mk ::
  out : ∃ C cc B cb, e = .returned (fnV (slimN f) C cc B cb) ∧ FnAt w' (slimN f) C B ∧ Keep Nil w w'
set_option maxRecDepth 100000 in
set_option maxHeartbeats 4000000 in
theorem slim_any (f : FnN) (ok : FnOk f) (A : Option Addr) (ca : Nat) (B : Option Addr) (cb : Nat) (w : World) (h : FnAt w f A B) :
    Calls Tryz.prog 211 #[fnV f A ca B cb] w (SlPost w f) := by
  obtain ⟨n, hn⟩ : ∃ n, n = f.n := ⟨_, rfl⟩
  obtain ⟨N, hN⟩ : ∃ N, N = f.at_.length := ⟨_, rfl⟩
  obtain ⟨M, hM⟩ : ∃ M, M = f.bits.length := ⟨_, rfl⟩
  obtain ⟨W0, hW0⟩ : ∃ W0, W0 = (w.alloc (.cells #[.int .i64 n, .slice A N ca, .slice B M cb] 226)).alloc (.cells #[.int .i64 0, .slice none 0 0, .slice none 0 0] 226) := ⟨_, rfl⟩
  have HK0 := Hid.intro_ (show Keep Nil w W0 by rw [hW0]; exact ((Keep.refl Nil w).alloc _).alloc _)
  have hb0 : Blk W0 w.heap.size 226 #[.int .i64 n, .slice A N ca, .slice B M cb] := by rw [hW0]; exact (Blk.new w _ _).keep ((Keep.refl Nil _).alloc _) (fun h => h)
  have hr0 : Blk W0 (w.heap.size + 1) 226 #[.int .i64 0, .slice none 0 0, .slice none 0 0] := by rw [hW0]; exact Blk.new_at _ _ _ (by simp)
  have c0 : W0.cell? ⟨w.heap.size, 0, none⟩ = some (.int .i64 n) := hb0.at_ 0
  have c1 : W0.cell? ⟨w.heap.size, 1, none⟩ = some (.slice A N ca) := hb0.at_ 1
  have c2 : W0.cell? ⟨w.heap.size, 2, none⟩ = some (.slice B M cb) := hb0.at_ 2
  have HSU := Hid.intro_ (support_any f ok A ca B cb W0 (h.nil HK0.out))
  have HSL : (suppN f).length ≤ 16 := Nat.le_trans (List.length_filter_le _ _) ok.le
  have HOV := Hid.intro_ (fun C cc W (k : Keep Nil w W) (hl : Rd W C (nats (suppN f))) (hs : Spotless C) => over_any f ok A ca B cb (suppN f) C cc W (h.nil k) hl hs HSL)
  have HB := Hid.intro_ hb0
  have HR0 := Hid.intro_ hr0
  unfold fnV at HOV HSU
  unfold fnV
  rw [← hn, ← hN, ← hM] at HOV HSU ⊢
  clear h hb0 hr0 hn hN hM ok HSL
  go_enter Tryz.func211, Tryz.ntmps211
  go_upto_region 1 with (fail)
  rw [← hW0]
  clear hW0
  go_wp2_with fail
  refine HSU.out.mono ?_
  rintro e w1 ⟨v, rfl, ho, k1⟩
  obtain ⟨C, cc, hv, hrd, hsp⟩ := ho.ns.out
  subst hv
  have HCB := Hid.intro_ (row_base ho.out)
  have HW1 := Hid.intro_ (Nat.lt_of_lt_of_le HR0.out.lt k1.size)
  have HW2 := Hid.intro_ (show w.heap.size + 1 < W0.heap.size from HR0.out.lt)
  have d0 : w1.cell? ⟨w.heap.size, 0, none⟩ = some (.int .i64 n) := cell_keep c0 k1 (fun h => h)
  have d1 : w1.cell? ⟨w.heap.size, 1, none⟩ = some (.slice A N ca) := cell_keep c1 k1 (fun h => h)
  have d2 : w1.cell? ⟨w.heap.size, 2, none⟩ = some (.slice B M cb) := cell_keep c2 k1 (fun h => h)
  have HOC := Hid.intro_ (HOV.out C cc w1 (HK0.out.then_ k1) hrd hsp)
  have HR1 := Hid.intro_ (HR0.out.keep k1 (fun h => h))
  have HK1 := Hid.intro_ (HK0.out.then_ k1)
  clear ho hrd hsp k1 c0 c1 c2 HSU HOV
  go_wp2_with fail
  refine HOC.out.mono ?_
  rintro e w2 ⟨g, rfl, hfa, k2, hgb⟩
  have br := HR1.out.keep k2 (fun h => h)
  have r0 : w2.cell? ⟨w.heap.size + 1, 0, none⟩ = some (.int .i64 0) := br.at_ 0
  have r1 : w2.cell? ⟨w.heap.size + 1, 1, none⟩ = some (.slice none 0 0) := br.at_ 1
  have r2 : w2.cell? ⟨w.heap.size + 1, 2, none⟩ = some (.slice none 0 0) := br.at_ 2
  have f0 := br.fr 0
  have f1 := br.fr 1
  have f2 := br.fr 2
  have HFA := Hid.intro_ hfa
  have HK2 := Hid.intro_ k2
  have HBR := Hid.intro_ br
  obtain ⟨x1, hx1⟩ : ∃ x1, x1 = (overN f (suppN f)).at_.length := ⟨_, rfl⟩
  obtain ⟨x2, hx2⟩ : ∃ x2, x2 = (overN f (suppN f)).bits.length := ⟨_, rfl⟩
  obtain ⟨x3, hx3⟩ : ∃ x3, x3 = 2 ^ (suppN f).length := ⟨_, rfl⟩
  obtain ⟨x0, hx0⟩ : ∃ x0, x0 = (overN f (suppN f)).n := ⟨_, rfl⟩
  have hval : Hid (SlPost w f (.returned (.agg #[.int .i64 (x0 : Int), .slice C x1 cc, .slice (some ⟨g, 0, none⟩) x2 x3])) (((w2.setCell ⟨w.heap.size + 1, 0, none⟩ (.int .i64 x0)).setCell ⟨w.heap.size + 1, 1, none⟩ (.slice C x1 cc)).setCell ⟨w.heap.size + 1, 2, none⟩ (.slice (some ⟨g, 0, none⟩) x2 x3))) := by
    have kX : Keep (fun z => z = w.heap.size + 1) w2 (((w2.setCell ⟨w.heap.size + 1, 0, none⟩ (.int .i64 x0)).setCell ⟨w.heap.size + 1, 1, none⟩ (.slice C x1 cc)).setCell ⟨w.heap.size + 1, 2, none⟩ (.slice (some ⟨g, 0, none⟩) x2 x3)) := (((Keep.refl (fun z => z = w.heap.size + 1) w2).setCell (p := ⟨w.heap.size + 1, 0, none⟩) (fun _ => rfl) _).setCell (p := ⟨w.heap.size + 1, 1, none⟩) (fun _ => rfl) _).setCell (p := ⟨w.heap.size + 1, 2, none⟩) (fun _ => rfl) _
    have h1 := HW1.out
    have h2 := HW2.out
    refine Hid.intro_ ⟨⟨C, cc, some ⟨g, 0, none⟩, x3, ?_, ⟨hfa.la.keep kX (fun a e _ e2 => ?_), hfa.sa, hfa.lb.keep kX (fun a e _ e2 => ?_), hfa.sb⟩, ?_⟩⟩
    · rw [hx0, hx1, hx2]
      rfl
    · have := HCB.out a e
      have e2 : a.block = w.heap.size + 1 := e2
      omega
    · injection e with e
      have e2 : a.block = w.heap.size + 1 := e2
      rw [← e] at e2
      have e2 : g = w.heap.size + 1 := e2
      omega
    · exact (HK1.out.then_ k2).trans kX (fun z hz e => by have e : z = w.heap.size + 1 := e; omega)
  unfold fnV
  rw [← hx0, ← hx1, ← hx2, ← hx3]
  have HX2 := Hid.intro_ (And.intro hx0 (And.intro hx1 (And.intro hx2 hx3)))
  clear hfa k2 hgb br hx0 hx1 hx2 hx3
  go_wp2_with fail
  obtain ⟨X, hX⟩ : ∃ X, X = ((w2.setCell ⟨w.heap.size + 1, 0, none⟩ (.int .i64 x0)).setCell ⟨w.heap.size + 1, 1, none⟩ (.slice C x1 cc)).setCell ⟨w.heap.size + 1, 2, none⟩ (.slice (some ⟨g, 0, none⟩) x2 x3) := ⟨_, rfl⟩
  rw [← hX] at hval ⊢
  have bX : Blk X (w.heap.size + 1) 226 #[.int .i64 x0, .slice C x1 cc, .slice (some ⟨g, 0, none⟩) x2 x3] := by rw [hX]; exact ((HBR.out.set_ 0 _).set_ 1 _).set_ 2 _
  have y0 : X.cell? ⟨w.heap.size + 1, 0, none⟩ = some (.int .i64 x0) := bX.at_ 0
  have y1 : X.cell? ⟨w.heap.size + 1, 1, none⟩ = some (.slice C x1 cc) := bX.at_ 1
  have y2 : X.cell? ⟨w.heap.size + 1, 2, none⟩ = some (.slice (some ⟨g, 0, none⟩) x2 x3) := bX.at_ 2
  clear bX hX
  refine bodyPost_ret (v := .agg #[.int .i64 x0, .slice C x1 cc, .slice (some ⟨g, 0, none⟩) x2 x3]) (by simp [results, Tryz.results211, go_sem, y0, y1, y2]) rfl hval.out
end Go.Proofs.YtadipinnbehhhaaGreatDoor
