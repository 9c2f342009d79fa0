/- Parts of the proof: FnM TallyP CubesOpen Stray2 AskRm. -/
import Derived.Test.YtadipinnbehhhaaGreatDoorCubesRowAT
import Derived.Test.YtadipinnbehhhaaGreatDoorCubesRowAO
import Derived.Test.YtadipinnbehhhaaGreatDoorCubesRowAN
namespace Go.Proofs.YtadipinnbehhhaaGreatDoor
open Go.RowKit

def intsL (l : List Int) : List Value := l.map fun x => .int .i64 x
theorem int_at2 {w : World} {A : Option Addr} {l : List Int} (h : Rd w A (intsL l)) {k : Nat} {x : Int} (hx : l[k]? = some x) (hs : Spotless A) :
    ∃ g o, A = some ⟨g, o, none⟩ ∧ w.cell? ⟨g, o + k, none⟩ = some (.int .i64 x) := by
  obtain ⟨⟨g, o, sp⟩, rfl, c0⟩ := h k (.int .i64 x) (by unfold intsL; rw [List.getElem?_map, hx]; rfl)
  obtain rfl : sp = none := hs _ rfl
  rw [add_at] at c0
  exact ⟨g, o, rfl, c0⟩
theorem spot_of {α : Type} {l : List α} {A : Option Addr} {k : Nat} {x : α} (h : l = [] ∨ Spotless A) (hx : l[k]? = some x) : Spotless A := h.resolve_left (fun e => by rw [e] at hx; cases hx)
theorem makeL_nil (n : Nat) (l : List Nat) (at_ : List Int) (q : Nat) (h : at_.length ≤ q) : makeL n l (at_.drop q) = l := by
  rw [List.drop_eq_nil_of_le h]
  rfl
theorem makeL_full (n : Nat) (l : List Nat) (r : List Int) (h : ¬ l.length < 16) : makeL n l r = l := by
  cases r with
  | nil => rfl
  | cons a r => unfold makeL; rw [if_neg h]
theorem makeL_step {n : Nat} {l : List Nat} {at_ : List Int} {q : Nat} {a : Int} (h : at_[q]? = some a) (hl : l.length < 16) : makeL n l (at_.drop q) = if 0 ≤ a ∧ a < n ∧ ¬ a.toNat ∈ l then makeL n (insN a.toNat l) (at_.drop (q + 1)) else makeL n l (at_.drop (q + 1)) := by
  obtain ⟨hq, e⟩ := List.getElem?_eq_some_iff.1 h
  rw [List.drop_eq_getElem_cons hq, e]
  conv => lhs; unfold makeL
  rw [if_pos hl]
theorem row_in {w : World} {base n c m size : Nat} {t : TypeId} {C : Option Addr} {xs : List Value} (h : w.ownsRow base t size (.slice C n c) m xs) : ∀ a, C = some a → base ≤ a.block ∧ a.block < w.heap.size := by
  intro a e
  subst e
  exact h.lt a.block rfl
theorem tab_fin {pw q : Nat} {bl bits : List Bool} (h1 : bl.length = pw) (h2 : ∀ j, j < pw → bl[j]? = some (if j < q then bits.getD j false else false)) (hq : pw ≤ q ∨ bits.length ≤ q) : bl = tabN pw bits := by
  refine List.ext_getElem? (fun j => ?_)
  unfold tabN
  rw [List.getElem?_map]
  by_cases hj : j < pw
  · rw [h2 j hj, List.getElem?_range hj]
    show some _ = some _
    congr 1
    split
    · rfl
    · show false = bits.getD j false
      rw [List.getD_eq_getElem?_getD, List.getElem?_eq_none (by omega)]
      rfl
  · rw [List.getElem?_eq_none (by omega), List.getElem?_eq_none (by rw [List.length_range]; omega)]
    rfl
theorem tab_put {pw q : Nat} {bl bits : List Bool} {b : Bool} (h1 : bl.length = pw) (h2 : ∀ j, j < pw → bl[j]? = some (if j < q then bits.getD j false else false)) (hq : q < pw) (hb : bits[q]? = some b) : (bl.set q b).length = pw ∧ ∀ j, j < pw → (bl.set q b)[j]? = some (if j < q + 1 then bits.getD j false else false) := by
  refine ⟨by rw [List.length_set]; exact h1, fun j hj => ?_⟩
  by_cases e : j = q
  · subst e
    rw [List.getElem?_set_self (by omega), if_pos (by omega), List.getD_eq_getElem?_getD, hb]
    rfl
  · rw [List.getElem?_set_ne (fun e2 => e e2.symm), h2 j hj]
    by_cases hjq : j < q
    · rw [if_pos hjq, if_pos (by omega)]
    · rw [if_neg hjq, if_neg (by omega)]
structure MkPost (w : World) (f : FnN) (e : Ending) (w' : World) : Prop where mk ::
  out : ∃ C cc B cb, e = .returned (fnV f C cc B cb) ∧ FnAt w' f C B ∧ Keep Nil w w' ∧ (∀ a, C = some a → w.heap.size ≤ a.block) ∧ ∀ a, B = some a → w.heap.size ≤ a.block
set_option maxRecDepth 100000 in
set_option maxHeartbeats 8000000 in
theorem make_any (n : Nat) (A : Option Addr) (ca : Nat) (at_ : List Int) (B : Option Addr) (cb : Nat) (bits : List Bool) (w : World) (hn : n ≤ 65536) (ha : Rd w A (intsL at_)) (hsa : at_ = [] ∨ Spotless A) (hla : at_.length ≤ 9223372036854775807) (hb : Rd w B (boolsV bits)) (hsb : bits = [] ∨ Spotless B) (hlb : bits.length ≤ 9223372036854775807) :
    Calls Tryz.prog 175 #[.int .i64 n, .slice A at_.length ca, .slice B bits.length cb] w (MkPost w (makeN n at_ bits)) := by
  obtain ⟨N, hN⟩ : ∃ N, N = at_.length := ⟨_, rfl⟩
  obtain ⟨M, hM⟩ : ∃ M, M = bits.length := ⟨_, rfl⟩
  rw [← hN] at hla ⊢
  rw [← hM] at hlb ⊢
  obtain ⟨W0, hW0⟩ : ∃ W0, W0 = w.alloc (.cells #[.int .i64 0, .slice none 0 0, .slice none 0 0] 226) := ⟨_, rfl⟩
  have HK0 := Hid.intro_ (show Keep Nil w W0 by rw [hW0]; exact (Keep.refl Nil w).alloc _)
  have hr0 : Blk W0 w.heap.size 226 #[.int .i64 0, .slice none 0 0, .slice none 0 0] := by rw [hW0]; exact Blk.new w _ _
  have HA := Hid.intro_ (ha.keep HK0.out (fun _ _ _ h => h))
  have HB := Hid.intro_ (hb.keep HK0.out (fun _ _ _ h => h))
  have HN := Hid.intro_ hN
  have HM := Hid.intro_ hM
  have HR0 := Hid.intro_ hr0
  have HSA := Hid.intro_ hsa
  have HSB := Hid.intro_ hsb
  have hn0 : decide ((n : Int) < 0) = false := decide_eq_false (by omega)
  clear ha hb hN hM hr0 hsa hsb
  go_enter Tryz.func175, Tryz.ntmps175
  go_upto_region 1 with (fail)
  rw [← hW0]
  clear hW0
  go_wp2_with fail
  go_loopw [7, 8] (fun s i wz => ∃ (q m : Nat) (l : List Nat) (C : Option Addr) (cc : Nat), q ≤ N ∧ s = .slice C m cc ∧ i = .int .i64 q ∧ m ≤ 16 ∧ Hid (m = l.length) ∧ Hid (makeL n [] at_ = makeL n l (at_.drop q)) ∧ Hid (wz.ownsRow W0.heap.size 3 1 (.slice C m cc) m (nats l)) ∧ Hid (Keep Nil W0 wz)) (fun _ i _ => N - (intOf i).toNat)
  case atStart => exact ⟨0, 0, [], none, 0, Nat.zero_le _, rfl, rfl, Nat.zero_le _, Hid.intro_ rfl, Hid.intro_ rfl, Hid.intro_ (World.ownsRow_nil _ _ _ _), Hid.intro_ (Keep.refl _ _)⟩
  case round =>
    obtain ⟨q, m, l, C, cc, hqm, rfl, rfl, hm16, HMM, HML, HO, HKZ⟩ := hrel
    by_cases hlq : q < N
    · have hqi : (q : Int) < (N : Int) := by omega
      have hq0 : (0 : Int) ≤ (q : Int) := by omega
      by_cases hm : m < 16
      · have hmi : (m : Int) < 16 := by omega
        obtain ⟨a, hax⟩ : ∃ a, at_[q]? = some a := ⟨_, List.getElem?_eq_getElem (by have := HN.out; omega)⟩
        obtain ⟨g, o, hAe, p0⟩ := int_at2 (HA.out.keep HKZ.out (fun _ _ _ h => h)) hax (spot_of HSA.out hax)
        subst hAe
        have HST := Hid.intro_ (makeL_step (n := n) (l := l) hax (by rw [← HMM.out]; exact hm))
        have hrd := own_rd HO.out
        have hsp : Spotless C := (own_le HO.out).2
        have HHO := Hid.intro_ (holds_any C cc l a wr hrd hsp (by rw [← HMM.out]; omega))
        rw [← HMM.out] at HHO
        have HRD := Hid.intro_ hrd
        have HSP := Hid.intro_ hsp
        clear hax hrd hsp
        by_cases h0 : 0 ≤ a
        · by_cases h1 : a < n
          · obtain ⟨x, hx⟩ : ∃ x : Nat, (x : Int) = a := ⟨a.toNat, by omega⟩
            subst hx
            by_cases h2 : x ∈ l
            · have hd : decide (∃ y ∈ l, (y : Int) = (x : Int)) = true := decide_eq_true ⟨x, h2, rfl⟩
              have HE := Hid.intro_ (show makeL n [] at_ = makeL n l (at_.drop (q + 1)) by rw [HML.out, HST.out, if_neg (by simp [h2])])
              rw [hd] at HHO
              clear hd h2
              go_wp2_with fail
              refine HHO.out.mono ?_
              rintro e wr2 ⟨rfl, rfl⟩
              go_wp2_with fail
              go_roundw
              case rel => exact ⟨q + 1, m, l, C, cc, by omega, rfl, by go_num, hm16, HMM, HE, HO, HKZ⟩
              case measure => simp [intOf]; omega
            · have hd : decide (∃ y ∈ l, (y : Int) = (x : Int)) = false := decide_eq_false (by rintro ⟨y, hy, e⟩; exact h2 (by rw [← Int.ofNat.inj e]; exact hy))
              have HE := Hid.intro_ (show makeL n [] at_ = makeL n (insN x l) (at_.drop (q + 1)) by rw [HML.out, HST.out, if_pos ⟨h0, h1, by simpa using h2⟩]; simp)
              have HIN := Hid.intro_ (insert_any C cc l x wr HRD.out HSP.out (by rw [← HMM.out]; omega))
              rw [← HMM.out] at HIN
              rw [hd] at HHO
              clear hd h2
              go_wp2_with fail
              refine HHO.out.mono ?_
              rintro e wr2 ⟨rfl, rfl⟩
              go_wp2_with fail
              refine HIN.out.mono ?_
              rintro e w5 ⟨v5, rfl, ho5, k5⟩
              obtain ⟨C5, c5, hv5⟩ := own_form ho5.out
              have hl5 : (insN x l).length = m + 1 := by rw [insN_len, HMM.out]
              subst hv5
              have ho6 := ho5.out
              rw [hl5] at ho6 ⊢
              have HO6 := Hid.intro_ (own_more ho6 HKZ.out.size)
              have HK6 := Hid.intro_ (HKZ.out.then_ k5)
              have HL6 := Hid.intro_ hl5.symm
              clear ho5 ho6 k5 hl5
              go_wp2_with fail
              go_roundw
              case rel => exact ⟨q + 1, m + 1, insN x l, C5, c5, by omega, rfl, by go_num, by omega, HL6, HE, HO6, HK6⟩
              case measure => simp [intOf]; omega
          · have HE := Hid.intro_ (show makeL n [] at_ = makeL n l (at_.drop (q + 1)) by rw [HML.out, HST.out, if_neg (by omega)])
            go_wp2_with fail
            go_roundw
            case rel => exact ⟨q + 1, m, l, C, cc, by omega, rfl, by go_num, hm16, HMM, HE, HO, HKZ⟩
            case measure => simp [intOf]; omega
        · have HE := Hid.intro_ (show makeL n [] at_ = makeL n l (at_.drop (q + 1)) by rw [HML.out, HST.out, if_neg (by omega)])
          go_wp2_with fail
          go_roundw
          case rel => exact ⟨q + 1, m, l, C, cc, by omega, rfl, by go_num, hm16, HMM, HE, HO, HKZ⟩
          case measure => simp [intOf]; omega
      · have HF := Hid.intro_ (show makeL n [] at_ = l by rw [HML.out]; exact makeL_full n l _ (by rw [← HMM.out]; exact hm))
        have hmi : ¬ (m : Int) < 16 := by omega
        clear hm
        obtain ⟨w2, rfl⟩ : ∃ w2 : World, w2 = wr := ⟨_, rfl⟩
        obtain ⟨pw, hpw⟩ : ∃ pw, pw = 2 ^ m := ⟨_, rfl⟩
        have hsh : wrap64 (2 ^ m : Int) = (pw : Int) := by rw [hpw]; exact shl_one64 hm16
        have hsh2 : IntKind.i64.wrap (2 ^ m : Int) = (pw : Int) := by rw [hpw]; exact shl_one hm16
        have hpp : pw ≤ 65536 := by rw [hpw]; exact pow_small hm16
        have huw : IntKind.u64.wrap (m : Int) = (m : Int) := IntWalk.u64_in _ (by omega)
        have hmn : min m 64 = m := by omega
        obtain ⟨ib, hib, hy0, hy1, hy2⟩ := info_parts info_bool
        have HPW := Hid.intro_ hpw
        clear hpw
        go_wp2_with (at_make; refine wpList_make_full _ rfl _ _ 92 rfl w2.heap.size 4 ib (.bool false) 1 Tryz.underlying92 hib hy0 hy1 .i64 .i64 _ _ pw rfl rfl (by simp) (by simp) (by rw [hy2]; omega) (by unfold maxLen; omega) (Nat.le_refl _) ?_; intro w3 ho3 g3
                     have k3 := Keep.of_grown_none g3
                     rw [made_bools] at ho3
                     have HR3 := Hid.intro_ (own_full (g := w2.heap.size) ho3 (by simp [boolsV]))
                     have HK3 := Hid.intro_ k3
                     clear ho3 g3 k3)
        obtain ⟨W4, hW4⟩ : ∃ W4, W4 = w3.alloc (.cells #[.int .i64 n, .slice C m cc, .slice (some ⟨w2.heap.size, 0, none⟩) pw pw] 226) := ⟨_, rfl⟩
        rw [← hW4]
        have b4 : Blk W4 w3.heap.size 226 #[.int .i64 n, .slice C m cc, .slice (some ⟨w2.heap.size, 0, none⟩) pw pw] := by rw [hW4]; exact Blk.new w3 _ _
        have HB4 := Hid.intro_ b4
        have HR4 := Hid.intro_ (show RowV W4 w2.heap.size 4 (boolsV (List.replicate pw false)) by rw [hW4]; exact HR3.out.keep ((Keep.refl Nil w3).alloc _) (fun h => h))
        have HK5 := Hid.intro_ (show Keep Nil w2 W4 by rw [hW4]; exact HK3.out.alloc _)
        have HR5 := Hid.intro_ (HR0.out.keep (HKZ.out.then_ HK5.out) (fun h => h))
        have hne1 : ¬ w.heap.size = w2.heap.size := by have := HR0.out.lt; have := HKZ.out.size; omega
        have hne2 : ¬ w3.heap.size = w2.heap.size := by have := HR3.out.lt; omega
        have hne3 : ¬ w3.heap.size = w.heap.size := by have := HK3.out.size; have := HR0.out.lt; have := HKZ.out.size; omega
        clear hW4 b4 hsh hsh2 huw hmn
        go_wp2_with fail
        go_loopw [10] (fun i wz => ∃ (q2 : Nat) (bl : List Bool), q2 ≤ pw ∧ i = .int .i64 q2 ∧ Hid (RowV wz w2.heap.size 4 (boolsV bl)) ∧ Hid (bl.length = pw ∧ ∀ j, j < pw → bl[j]? = some (if j < q2 then bits.getD j false else false)) ∧ Hid (Keep (fun z => z = w2.heap.size) W4 wz)) (fun i _ => pw - (intOf i).toNat)
        case atStart => exact ⟨0, _, Nat.zero_le _, rfl, HR4, Hid.intro_ ⟨by simp, fun j hj => by rw [if_neg (by omega), List.getElem?_replicate, if_pos hj]⟩, Hid.intro_ (Keep.refl _ _)⟩
        case round =>
          obtain ⟨q2, bl, hq2, rfl, HRY, HBL, HKY⟩ := hrel
          have g2 : wr.cell? ⟨w3.heap.size, 2, none⟩ = some (.slice (some ⟨w2.heap.size, 0, none⟩) pw pw) := (HB4.out.keep HKY.out hne2).at_ 2
          have hz0 : (0 : Int) ≤ (q2 : Int) := by omega
          by_cases h1 : q2 < pw
          · have h1i : (q2 : Int) < (pw : Int) := by omega
            by_cases h2 : q2 < M
            · have h2i : (q2 : Int) < (M : Int) := by omega
              obtain ⟨bx, hbx⟩ : ∃ bx, bits[q2]? = some bx := ⟨_, List.getElem?_eq_getElem (by have := HM.out; omega)⟩
              have hwk : Keep Nil W0 wr := (HKZ.out.then_ HK5.out).trans HKY.out (fun z hz e => by have e : z = w2.heap.size := e; have := HKZ.out.size; omega)
              obtain ⟨gb, ob, hBe, p0⟩ := bool_at (HB.out.keep hwk (fun _ _ _ h => h)) hbx (spot_of HSB.out hbx)
              subst hBe
              obtain ⟨b0, hb0⟩ : ∃ b0, bl[q2]? = some b0 := ⟨_, List.getElem?_eq_getElem (by have := HBL.out.1; omega)⟩
              have q0 : wr.cell? ⟨w2.heap.size, q2, none⟩ = some (.bool b0) := HRY.out.at_ (by unfold boolsV; rw [List.getElem?_map, hb0]; rfl)
              have qf := HRY.out.fr q2
              have HPT := Hid.intro_ (tab_put HBL.out.1 HBL.out.2 h1 hbx)
              clear hbx hwk hb0
              go_wp2_with fail
              go_still_tail 8, (by kernel_rfl)
              change wpList _ _ _ _ _ wr.drew
              go_wp2_with fail
              go_roundw
              case rel => exact ⟨q2 + 1, bl.set q2 bx, by omega, by go_num, Hid.intro_ (by
                have := RowV.set (w := wr.drew) HRY.out q2 (.bool bx)
                rw [show (boolsV bl).set q2 (.bool bx) = boolsV (bl.set q2 bx) by unfold boolsV; rw [List.map_set]] at this
                exact this), Hid.intro_ HPT.out, Hid.intro_ (HKY.out.drew.setCell (p := ⟨w2.heap.size, q2, none⟩) (fun _ => rfl) _)⟩
              case measure => simp [intOf]; omega
            · have h2i : ¬ (q2 : Int) < (M : Int) := by omega
              have hM := HM.out
              have b9 := HB4.out.keep HKY.out hne2
              have e0 : wr.cell? ⟨w3.heap.size, 0, none⟩ = some (.int .i64 n) := b9.at_ 0
              have e1 : wr.cell? ⟨w3.heap.size, 1, none⟩ = some (.slice C m cc) := b9.at_ 1
              have e2 : wr.cell? ⟨w3.heap.size, 2, none⟩ = some (.slice (some ⟨w2.heap.size, 0, none⟩) pw pw) := b9.at_ 2
              have br := HR5.out.keep HKY.out hne1
              have r0 : wr.cell? ⟨w.heap.size, 0, none⟩ = some (.int .i64 0) := br.at_ 0
              have r1 : wr.cell? ⟨w.heap.size, 1, none⟩ = some (.slice none 0 0) := br.at_ 1
              have r2 : wr.cell? ⟨w.heap.size, 2, none⟩ = some (.slice none 0 0) := br.at_ 2
              have f0 := br.fr 0
              have f1 := br.fr 1
              have f2 := br.fr 2
              have HBR := Hid.intro_ br
              have hbl : bl = tabN pw bits := tab_fin HBL.out.1 HBL.out.2 (by omega)
              have HBT := Hid.intro_ hbl
              clear b9 br hbl
              go_wp2_with fail
              obtain ⟨X, hX⟩ : ∃ X, X = ((wr.setCell ⟨w.heap.size, 0, none⟩ (.int .i64 n)).setCell ⟨w.heap.size, 1, none⟩ (.slice C m cc)).setCell ⟨w.heap.size, 2, none⟩ (.slice (some ⟨w2.heap.size, 0, none⟩) pw pw) := ⟨_, rfl⟩
              rw [← hX]
              have bX : Blk X w.heap.size 226 #[.int .i64 n, .slice C m cc, .slice (some ⟨w2.heap.size, 0, none⟩) pw pw] := by rw [hX]; exact ((HBR.out.set_ 0 _).set_ 1 _).set_ 2 _
              have kX : Keep (fun z => z = w.heap.size) wr X := by rw [hX]; exact (((Keep.refl (fun z => z = w.heap.size) wr).setCell (p := ⟨w.heap.size, 0, none⟩) (fun _ => rfl) _).setCell (p := ⟨w.heap.size, 1, none⟩) (fun _ => rfl) _).setCell (p := ⟨w.heap.size, 2, none⟩) (fun _ => rfl) _
              have y0 : X.cell? ⟨w.heap.size, 0, none⟩ = some (.int .i64 n) := bX.at_ 0
              have y1 : X.cell? ⟨w.heap.size, 1, none⟩ = some (.slice C m cc) := bX.at_ 1
              have y2 : X.cell? ⟨w.heap.size, 2, none⟩ = some (.slice (some ⟨w2.heap.size, 0, none⟩) pw pw) := bX.at_ 2
              have hfin : Hid (MkPost w (makeN n at_ bits) (.returned (.agg #[.int .i64 n, .slice C m cc, .slice (some ⟨w2.heap.size, 0, none⟩) pw pw])) X) := by
                have hw := HR0.out.lt
                have hwz := HKZ.out.size
                have k5 : Keep Nil w2 W4 := HK5.out
                have hin := row_in HO.out
                refine Hid.intro_ ⟨⟨C, cc, some ⟨w2.heap.size, 0, none⟩, pw, ?_, ⟨?_, (own_le HO.out).2, ?_, fun a e => by injection e with e; rw [← e]⟩, ?_, fun a e => by have := hin a e; omega, fun a e => by injection e with e; rw [← e]; show w.heap.size ≤ w2.heap.size; omega⟩⟩
                · unfold fnV makeN
                  rw [HF.out, ← HMM.out, ← HPW.out, ← HBT.out, HBL.out.1]
                · show Rd X C (nats (makeL n [] at_))
                  rw [HF.out]
                  exact (((own_rd HO.out).keep k5 (fun _ _ _ h => h)).keep HKY.out (fun a e _ e2 => by have := hin a e; have e2 : a.block = w2.heap.size := e2; omega)).keep kX (fun a e _ e2 => by have := hin a e; have e2 : a.block = w.heap.size := e2; omega)
                · show Rd X _ (boolsV (tabN (2 ^ (makeL n [] at_).length) bits))
                  rw [HF.out, ← HMM.out, ← HPW.out, ← HBT.out]
                  exact (HRY.out.keep kX (fun e => by have e : w2.heap.size = w.heap.size := e; omega)).rd
                · exact ((HK0.out.then_ (HKZ.out.then_ k5)).trans HKY.out (fun z hz e => by have e : z = w2.heap.size := e; omega)).trans kX (fun z hz e => by have e : z = w.heap.size := e; omega)
              clear bX hX kX e0 e1 e2 r0 r1 r2 f0 f1 f2
              refine bodyPost_ret (v := .agg #[.int .i64 n, .slice C m cc, .slice (some ⟨w2.heap.size, 0, none⟩) pw pw]) (by simp [results, Tryz.results175, go_sem, y0, y1, y2]) rfl hfin.out
          · have h1i : ¬ (q2 : Int) < (pw : Int) := by omega
            have b9 := HB4.out.keep HKY.out hne2
            have e0 : wr.cell? ⟨w3.heap.size, 0, none⟩ = some (.int .i64 n) := b9.at_ 0
            have e1 : wr.cell? ⟨w3.heap.size, 1, none⟩ = some (.slice C m cc) := b9.at_ 1
            have e2 : wr.cell? ⟨w3.heap.size, 2, none⟩ = some (.slice (some ⟨w2.heap.size, 0, none⟩) pw pw) := b9.at_ 2
            have br := HR5.out.keep HKY.out hne1
            have r0 : wr.cell? ⟨w.heap.size, 0, none⟩ = some (.int .i64 0) := br.at_ 0
            have r1 : wr.cell? ⟨w.heap.size, 1, none⟩ = some (.slice none 0 0) := br.at_ 1
            have r2 : wr.cell? ⟨w.heap.size, 2, none⟩ = some (.slice none 0 0) := br.at_ 2
            have f0 := br.fr 0
            have f1 := br.fr 1
            have f2 := br.fr 2
            have HBR := Hid.intro_ br
            have hbl : bl = tabN pw bits := tab_fin HBL.out.1 HBL.out.2 (by omega)
            have HBT := Hid.intro_ hbl
            clear b9 br hbl
            go_wp2_with fail
            obtain ⟨X, hX⟩ : ∃ X, X = ((wr.setCell ⟨w.heap.size, 0, none⟩ (.int .i64 n)).setCell ⟨w.heap.size, 1, none⟩ (.slice C m cc)).setCell ⟨w.heap.size, 2, none⟩ (.slice (some ⟨w2.heap.size, 0, none⟩) pw pw) := ⟨_, rfl⟩
            rw [← hX]
            have bX : Blk X w.heap.size 226 #[.int .i64 n, .slice C m cc, .slice (some ⟨w2.heap.size, 0, none⟩) pw pw] := by rw [hX]; exact ((HBR.out.set_ 0 _).set_ 1 _).set_ 2 _
            have kX : Keep (fun z => z = w.heap.size) wr X := by rw [hX]; exact (((Keep.refl (fun z => z = w.heap.size) wr).setCell (p := ⟨w.heap.size, 0, none⟩) (fun _ => rfl) _).setCell (p := ⟨w.heap.size, 1, none⟩) (fun _ => rfl) _).setCell (p := ⟨w.heap.size, 2, none⟩) (fun _ => rfl) _
            have y0 : X.cell? ⟨w.heap.size, 0, none⟩ = some (.int .i64 n) := bX.at_ 0
            have y1 : X.cell? ⟨w.heap.size, 1, none⟩ = some (.slice C m cc) := bX.at_ 1
            have y2 : X.cell? ⟨w.heap.size, 2, none⟩ = some (.slice (some ⟨w2.heap.size, 0, none⟩) pw pw) := bX.at_ 2
            have hfin : Hid (MkPost w (makeN n at_ bits) (.returned (.agg #[.int .i64 n, .slice C m cc, .slice (some ⟨w2.heap.size, 0, none⟩) pw pw])) X) := by
              have hw := HR0.out.lt
              have hwz := HKZ.out.size
              have k5 : Keep Nil w2 W4 := HK5.out
              have hin := row_in HO.out
              refine Hid.intro_ ⟨⟨C, cc, some ⟨w2.heap.size, 0, none⟩, pw, ?_, ⟨?_, (own_le HO.out).2, ?_, fun a e => by injection e with e; rw [← e]⟩, ?_, fun a e => by have := hin a e; omega, fun a e => by injection e with e; rw [← e]; show w.heap.size ≤ w2.heap.size; omega⟩⟩
              · unfold fnV makeN
                rw [HF.out, ← HMM.out, ← HPW.out, ← HBT.out, HBL.out.1]
              · show Rd X C (nats (makeL n [] at_))
                rw [HF.out]
                exact (((own_rd HO.out).keep k5 (fun _ _ _ h => h)).keep HKY.out (fun a e _ e2 => by have := hin a e; have e2 : a.block = w2.heap.size := e2; omega)).keep kX (fun a e _ e2 => by have := hin a e; have e2 : a.block = w.heap.size := e2; omega)
              · show Rd X _ (boolsV (tabN (2 ^ (makeL n [] at_).length) bits))
                rw [HF.out, ← HMM.out, ← HPW.out, ← HBT.out]
                exact (HRY.out.keep kX (fun e => by have e : w2.heap.size = w.heap.size := e; omega)).rd
              · exact ((HK0.out.then_ (HKZ.out.then_ k5)).trans HKY.out (fun z hz e => by have e : z = w2.heap.size := e; omega)).trans kX (fun z hz e => by have e : z = w.heap.size := e; omega)
            clear bX hX kX e0 e1 e2 r0 r1 r2 f0 f1 f2
            refine bodyPost_ret (v := .agg #[.int .i64 n, .slice C m cc, .slice (some ⟨w2.heap.size, 0, none⟩) pw pw]) (by simp [results, Tryz.results175, go_sem, y0, y1, y2]) rfl hfin.out
    · have HF := Hid.intro_ (show makeL n [] at_ = l by rw [HML.out]; exact makeL_nil n l at_ q (by rw [← HN.out]; omega))
      have hqi : ¬ (q : Int) < (N : Int) := by omega
      obtain ⟨w2, rfl⟩ : ∃ w2 : World, w2 = wr := ⟨_, rfl⟩
      obtain ⟨pw, hpw⟩ : ∃ pw, pw = 2 ^ m := ⟨_, rfl⟩
      have hsh : wrap64 (2 ^ m : Int) = (pw : Int) := by rw [hpw]; exact shl_one64 hm16
      have hsh2 : IntKind.i64.wrap (2 ^ m : Int) = (pw : Int) := by rw [hpw]; exact shl_one hm16
      have hpp : pw ≤ 65536 := by rw [hpw]; exact pow_small hm16
      have huw : IntKind.u64.wrap (m : Int) = (m : Int) := IntWalk.u64_in _ (by omega)
      have hmn : min m 64 = m := by omega
      obtain ⟨ib, hib, hy0, hy1, hy2⟩ := info_parts info_bool
      have HPW := Hid.intro_ hpw
      clear hpw
      go_wp2_with (at_make; refine wpList_make_full _ rfl _ _ 92 rfl w2.heap.size 4 ib (.bool false) 1 Tryz.underlying92 hib hy0 hy1 .i64 .i64 _ _ pw rfl rfl (by simp) (by simp) (by rw [hy2]; omega) (by unfold maxLen; omega) (Nat.le_refl _) ?_; intro w3 ho3 g3
                   have k3 := Keep.of_grown_none g3
                   rw [made_bools] at ho3
                   have HR3 := Hid.intro_ (own_full (g := w2.heap.size) ho3 (by simp [boolsV]))
                   have HK3 := Hid.intro_ k3
                   clear ho3 g3 k3)
      obtain ⟨W4, hW4⟩ : ∃ W4, W4 = w3.alloc (.cells #[.int .i64 n, .slice C m cc, .slice (some ⟨w2.heap.size, 0, none⟩) pw pw] 226) := ⟨_, rfl⟩
      rw [← hW4]
      have b4 : Blk W4 w3.heap.size 226 #[.int .i64 n, .slice C m cc, .slice (some ⟨w2.heap.size, 0, none⟩) pw pw] := by rw [hW4]; exact Blk.new w3 _ _
      have HB4 := Hid.intro_ b4
      have HR4 := Hid.intro_ (show RowV W4 w2.heap.size 4 (boolsV (List.replicate pw false)) by rw [hW4]; exact HR3.out.keep ((Keep.refl Nil w3).alloc _) (fun h => h))
      have HK5 := Hid.intro_ (show Keep Nil w2 W4 by rw [hW4]; exact HK3.out.alloc _)
      have HR5 := Hid.intro_ (HR0.out.keep (HKZ.out.then_ HK5.out) (fun h => h))
      have hne1 : ¬ w.heap.size = w2.heap.size := by have := HR0.out.lt; have := HKZ.out.size; omega
      have hne2 : ¬ w3.heap.size = w2.heap.size := by have := HR3.out.lt; omega
      have hne3 : ¬ w3.heap.size = w.heap.size := by have := HK3.out.size; have := HR0.out.lt; have := HKZ.out.size; omega
      clear hW4 b4 hsh hsh2 huw hmn
      go_wp2_with fail
      go_loopw [10] (fun i wz => ∃ (q2 : Nat) (bl : List Bool), q2 ≤ pw ∧ i = .int .i64 q2 ∧ Hid (RowV wz w2.heap.size 4 (boolsV bl)) ∧ Hid (bl.length = pw ∧ ∀ j, j < pw → bl[j]? = some (if j < q2 then bits.getD j false else false)) ∧ Hid (Keep (fun z => z = w2.heap.size) W4 wz)) (fun i _ => pw - (intOf i).toNat)
      case atStart => exact ⟨0, _, Nat.zero_le _, rfl, HR4, Hid.intro_ ⟨by simp, fun j hj => by rw [if_neg (by omega), List.getElem?_replicate, if_pos hj]⟩, Hid.intro_ (Keep.refl _ _)⟩
      case round =>
        obtain ⟨q2, bl, hq2, rfl, HRY, HBL, HKY⟩ := hrel
        have g2 : wr.cell? ⟨w3.heap.size, 2, none⟩ = some (.slice (some ⟨w2.heap.size, 0, none⟩) pw pw) := (HB4.out.keep HKY.out hne2).at_ 2
        have hz0 : (0 : Int) ≤ (q2 : Int) := by omega
        by_cases h1 : q2 < pw
        · have h1i : (q2 : Int) < (pw : Int) := by omega
          by_cases h2 : q2 < M
          · have h2i : (q2 : Int) < (M : Int) := by omega
            obtain ⟨bx, hbx⟩ : ∃ bx, bits[q2]? = some bx := ⟨_, List.getElem?_eq_getElem (by have := HM.out; omega)⟩
            have hwk : Keep Nil W0 wr := (HKZ.out.then_ HK5.out).trans HKY.out (fun z hz e => by have e : z = w2.heap.size := e; have := HKZ.out.size; omega)
            obtain ⟨gb, ob, hBe, p0⟩ := bool_at (HB.out.keep hwk (fun _ _ _ h => h)) hbx (spot_of HSB.out hbx)
            subst hBe
            obtain ⟨b0, hb0⟩ : ∃ b0, bl[q2]? = some b0 := ⟨_, List.getElem?_eq_getElem (by have := HBL.out.1; omega)⟩
            have q0 : wr.cell? ⟨w2.heap.size, q2, none⟩ = some (.bool b0) := HRY.out.at_ (by unfold boolsV; rw [List.getElem?_map, hb0]; rfl)
            have qf := HRY.out.fr q2
            have HPT := Hid.intro_ (tab_put HBL.out.1 HBL.out.2 h1 hbx)
            clear hbx hwk hb0
            go_wp2_with fail
            go_still_tail 8, (by kernel_rfl)
            change wpList _ _ _ _ _ wr.drew
            go_wp2_with fail
            go_roundw
            case rel => exact ⟨q2 + 1, bl.set q2 bx, by omega, by go_num, Hid.intro_ (by
              have := RowV.set (w := wr.drew) HRY.out q2 (.bool bx)
              rw [show (boolsV bl).set q2 (.bool bx) = boolsV (bl.set q2 bx) by unfold boolsV; rw [List.map_set]] at this
              exact this), Hid.intro_ HPT.out, Hid.intro_ (HKY.out.drew.setCell (p := ⟨w2.heap.size, q2, none⟩) (fun _ => rfl) _)⟩
            case measure => simp [intOf]; omega
          · have h2i : ¬ (q2 : Int) < (M : Int) := by omega
            have hM := HM.out
            have b9 := HB4.out.keep HKY.out hne2
            have e0 : wr.cell? ⟨w3.heap.size, 0, none⟩ = some (.int .i64 n) := b9.at_ 0
            have e1 : wr.cell? ⟨w3.heap.size, 1, none⟩ = some (.slice C m cc) := b9.at_ 1
            have e2 : wr.cell? ⟨w3.heap.size, 2, none⟩ = some (.slice (some ⟨w2.heap.size, 0, none⟩) pw pw) := b9.at_ 2
            have br := HR5.out.keep HKY.out hne1
            have r0 : wr.cell? ⟨w.heap.size, 0, none⟩ = some (.int .i64 0) := br.at_ 0
            have r1 : wr.cell? ⟨w.heap.size, 1, none⟩ = some (.slice none 0 0) := br.at_ 1
            have r2 : wr.cell? ⟨w.heap.size, 2, none⟩ = some (.slice none 0 0) := br.at_ 2
            have f0 := br.fr 0
            have f1 := br.fr 1
            have f2 := br.fr 2
            have HBR := Hid.intro_ br
            have hbl : bl = tabN pw bits := tab_fin HBL.out.1 HBL.out.2 (by omega)
            have HBT := Hid.intro_ hbl
            clear b9 br hbl
            go_wp2_with fail
            obtain ⟨X, hX⟩ : ∃ X, X = ((wr.setCell ⟨w.heap.size, 0, none⟩ (.int .i64 n)).setCell ⟨w.heap.size, 1, none⟩ (.slice C m cc)).setCell ⟨w.heap.size, 2, none⟩ (.slice (some ⟨w2.heap.size, 0, none⟩) pw pw) := ⟨_, rfl⟩
            rw [← hX]
            have bX : Blk X w.heap.size 226 #[.int .i64 n, .slice C m cc, .slice (some ⟨w2.heap.size, 0, none⟩) pw pw] := by rw [hX]; exact ((HBR.out.set_ 0 _).set_ 1 _).set_ 2 _
            have kX : Keep (fun z => z = w.heap.size) wr X := by rw [hX]; exact (((Keep.refl (fun z => z = w.heap.size) wr).setCell (p := ⟨w.heap.size, 0, none⟩) (fun _ => rfl) _).setCell (p := ⟨w.heap.size, 1, none⟩) (fun _ => rfl) _).setCell (p := ⟨w.heap.size, 2, none⟩) (fun _ => rfl) _
            have y0 : X.cell? ⟨w.heap.size, 0, none⟩ = some (.int .i64 n) := bX.at_ 0
            have y1 : X.cell? ⟨w.heap.size, 1, none⟩ = some (.slice C m cc) := bX.at_ 1
            have y2 : X.cell? ⟨w.heap.size, 2, none⟩ = some (.slice (some ⟨w2.heap.size, 0, none⟩) pw pw) := bX.at_ 2
            have hfin : Hid (MkPost w (makeN n at_ bits) (.returned (.agg #[.int .i64 n, .slice C m cc, .slice (some ⟨w2.heap.size, 0, none⟩) pw pw])) X) := by
              have hw := HR0.out.lt
              have hwz := HKZ.out.size
              have k5 : Keep Nil w2 W4 := HK5.out
              have hin := row_in HO.out
              refine Hid.intro_ ⟨⟨C, cc, some ⟨w2.heap.size, 0, none⟩, pw, ?_, ⟨?_, (own_le HO.out).2, ?_, fun a e => by injection e with e; rw [← e]⟩, ?_, fun a e => by have := hin a e; omega, fun a e => by injection e with e; rw [← e]; show w.heap.size ≤ w2.heap.size; omega⟩⟩
              · unfold fnV makeN
                rw [HF.out, ← HMM.out, ← HPW.out, ← HBT.out, HBL.out.1]
              · show Rd X C (nats (makeL n [] at_))
                rw [HF.out]
                exact (((own_rd HO.out).keep k5 (fun _ _ _ h => h)).keep HKY.out (fun a e _ e2 => by have := hin a e; have e2 : a.block = w2.heap.size := e2; omega)).keep kX (fun a e _ e2 => by have := hin a e; have e2 : a.block = w.heap.size := e2; omega)
              · show Rd X _ (boolsV (tabN (2 ^ (makeL n [] at_).length) bits))
                rw [HF.out, ← HMM.out, ← HPW.out, ← HBT.out]
                exact (HRY.out.keep kX (fun e => by have e : w2.heap.size = w.heap.size := e; omega)).rd
              · exact ((HK0.out.then_ (HKZ.out.then_ k5)).trans HKY.out (fun z hz e => by have e : z = w2.heap.size := e; omega)).trans kX (fun z hz e => by have e : z = w.heap.size := e; omega)
            clear bX hX kX e0 e1 e2 r0 r1 r2 f0 f1 f2
            refine bodyPost_ret (v := .agg #[.int .i64 n, .slice C m cc, .slice (some ⟨w2.heap.size, 0, none⟩) pw pw]) (by simp [results, Tryz.results175, go_sem, y0, y1, y2]) rfl hfin.out
        · have h1i : ¬ (q2 : Int) < (pw : Int) := by omega
          have b9 := HB4.out.keep HKY.out hne2
          have e0 : wr.cell? ⟨w3.heap.size, 0, none⟩ = some (.int .i64 n) := b9.at_ 0
          have e1 : wr.cell? ⟨w3.heap.size, 1, none⟩ = some (.slice C m cc) := b9.at_ 1
          have e2 : wr.cell? ⟨w3.heap.size, 2, none⟩ = some (.slice (some ⟨w2.heap.size, 0, none⟩) pw pw) := b9.at_ 2
          have br := HR5.out.keep HKY.out hne1
          have r0 : wr.cell? ⟨w.heap.size, 0, none⟩ = some (.int .i64 0) := br.at_ 0
          have r1 : wr.cell? ⟨w.heap.size, 1, none⟩ = some (.slice none 0 0) := br.at_ 1
          have r2 : wr.cell? ⟨w.heap.size, 2, none⟩ = some (.slice none 0 0) := br.at_ 2
          have f0 := br.fr 0
          have f1 := br.fr 1
          have f2 := br.fr 2
          have HBR := Hid.intro_ br
          have hbl : bl = tabN pw bits := tab_fin HBL.out.1 HBL.out.2 (by omega)
          have HBT := Hid.intro_ hbl
          clear b9 br hbl
          go_wp2_with fail
          obtain ⟨X, hX⟩ : ∃ X, X = ((wr.setCell ⟨w.heap.size, 0, none⟩ (.int .i64 n)).setCell ⟨w.heap.size, 1, none⟩ (.slice C m cc)).setCell ⟨w.heap.size, 2, none⟩ (.slice (some ⟨w2.heap.size, 0, none⟩) pw pw) := ⟨_, rfl⟩
          rw [← hX]
          have bX : Blk X w.heap.size 226 #[.int .i64 n, .slice C m cc, .slice (some ⟨w2.heap.size, 0, none⟩) pw pw] := by rw [hX]; exact ((HBR.out.set_ 0 _).set_ 1 _).set_ 2 _
          have kX : Keep (fun z => z = w.heap.size) wr X := by rw [hX]; exact (((Keep.refl (fun z => z = w.heap.size) wr).setCell (p := ⟨w.heap.size, 0, none⟩) (fun _ => rfl) _).setCell (p := ⟨w.heap.size, 1, none⟩) (fun _ => rfl) _).setCell (p := ⟨w.heap.size, 2, none⟩) (fun _ => rfl) _
          have y0 : X.cell? ⟨w.heap.size, 0, none⟩ = some (.int .i64 n) := bX.at_ 0
          have y1 : X.cell? ⟨w.heap.size, 1, none⟩ = some (.slice C m cc) := bX.at_ 1
          have y2 : X.cell? ⟨w.heap.size, 2, none⟩ = some (.slice (some ⟨w2.heap.size, 0, none⟩) pw pw) := bX.at_ 2
          have hfin : Hid (MkPost w (makeN n at_ bits) (.returned (.agg #[.int .i64 n, .slice C m cc, .slice (some ⟨w2.heap.size, 0, none⟩) pw pw])) X) := by
            have hw := HR0.out.lt
            have hwz := HKZ.out.size
            have k5 : Keep Nil w2 W4 := HK5.out
            have hin := row_in HO.out
            refine Hid.intro_ ⟨⟨C, cc, some ⟨w2.heap.size, 0, none⟩, pw, ?_, ⟨?_, (own_le HO.out).2, ?_, fun a e => by injection e with e; rw [← e]⟩, ?_, fun a e => by have := hin a e; omega, fun a e => by injection e with e; rw [← e]; show w.heap.size ≤ w2.heap.size; omega⟩⟩
            · unfold fnV makeN
              rw [HF.out, ← HMM.out, ← HPW.out, ← HBT.out, HBL.out.1]
            · show Rd X C (nats (makeL n [] at_))
              rw [HF.out]
              exact (((own_rd HO.out).keep k5 (fun _ _ _ h => h)).keep HKY.out (fun a e _ e2 => by have := hin a e; have e2 : a.block = w2.heap.size := e2; omega)).keep kX (fun a e _ e2 => by have := hin a e; have e2 : a.block = w.heap.size := e2; omega)
            · show Rd X _ (boolsV (tabN (2 ^ (makeL n [] at_).length) bits))
              rw [HF.out, ← HMM.out, ← HPW.out, ← HBT.out]
              exact (HRY.out.keep kX (fun e => by have e : w2.heap.size = w.heap.size := e; omega)).rd
            · exact ((HK0.out.then_ (HKZ.out.then_ k5)).trans HKY.out (fun z hz e => by have e : z = w2.heap.size := e; omega)).trans kX (fun z hz e => by have e : z = w.heap.size := e; omega)
          clear bX hX kX e0 e1 e2 r0 r1 r2 f0 f1 f2
          refine bodyPost_ret (v := .agg #[.int .i64 n, .slice C m cc, .slice (some ⟨w2.heap.size, 0, none⟩) pw pw]) (by simp [results, Tryz.results175, go_sem, y0, y1, y2]) rfl hfin.out
end Go.Proofs.YtadipinnbehhhaaGreatDoor
namespace Go.Proofs.YtadipinnbehhhaaGreatDoor
open Go.RowKit

theorem tmod_low {n m : Int} (hm : 0 < m) : n % m = if n.tmod m < 0 then n.tmod m + m else n.tmod m := by
  have h1 := Int.tmod_eq_emod (a := n) (b := m)
  have h2 := Int.emod_nonneg n (b := m) (by omega)
  have h3 := Int.emod_lt_of_pos n hm
  split at h1
  · rw [if_neg (by omega)]
    omega
  · have h4 : (m.natAbs : Int) = m := by omega
    by_cases h5 : n.tmod m < 0
    · rw [if_pos h5]
      omega
    · rw [if_neg h5]
      omega
set_option maxHeartbeats 1000000 in
theorem lbelow_any (n m : Int) (hm : 0 < m ∧ m ≤ 65537) (w : World) :
    Calls Tryz.prog 54 #[.int .i64 n, .int .i64 m] w fun e w' => e = .returned (.int .i64 (n % m)) ∧ w' = w := by
  obtain ⟨t, ht⟩ : ∃ t, t = n.tmod m := ⟨_, rfl⟩
  have h1 := tmod_low (n := n) hm.1
  have h2 := Int.emod_nonneg n (b := m) (by omega)
  have h3 := Int.emod_lt_of_pos n hm.1
  obtain ⟨r, hr⟩ : ∃ r, r = n % m := ⟨_, rfl⟩
  rw [← ht, ← hr] at h1
  rw [← hr] at h2 h3 ⊢
  have ht2 : n.tmod m = t := ht.symm
  have hm0 : ¬ m = 0 := by omega
  clear ht hr
  have hlo : -65537 ≤ t ∧ t ≤ 65537 := by
    by_cases h0 : t < 0
    · rw [if_pos h0] at h1; exact ⟨by omega, by omega⟩
    · have h9 : r = t := h1.trans (if_neg h0)
      exact ⟨by omega, by omega⟩
  have hw2 : IntKind.i64.wrap t = t := by rw [IntKind.wrap_i64]; omega
  have hw1 : wrap64 t = t := by unfold wrap64; omega
  by_cases h0 : t < 0
  · rw [if_pos h0] at h1
    subst h1
    have hw3 : wrap64 (t + m) = t + m := wrap_low _ (by omega)
    have hw4 : IntKind.i64.wrap (t + m) = t + m := by rw [IntKind.wrap_i64]; omega
    clear h2 h3 hlo hm
    go_enter Tryz.func54, Tryz.ntmps54
    go_wp2
    go_ret
    exact ⟨rfl, rfl⟩
  · rw [if_neg h0] at h1
    subst h1
    clear h2 h3 hlo hm
    go_enter Tryz.func54, Tryz.ntmps54
    go_wp2
    go_ret
    exact ⟨rfl, rfl⟩
def blkC (bb : Int) : Nat := (64 + 32 * (bb % 9)).toNat
theorem blkC_ok (bb : Int) : 64 ≤ blkC bb ∧ blkC bb ≤ 65536 ∧ blkC bb % 32 = 0 ∧ blkC bb ≤ 320 := by
  unfold blkC
  have h2 := Int.emod_nonneg bb (b := 9) (by omega)
  have h3 := Int.emod_lt_of_pos bb (b := 9) (by omega)
  omega
def caV (nn : Int) (A1 : Option Addr) (l1 c1 : Nat) (A2 : Option Addr) (l2 c2 : Nat) (bb mm : Int) : Value := .agg #[.int .i64 nn, .slice A1 l1 c1, .slice A2 l2 c2, .int .i64 bb, .int .i64 mm]
set_option maxHeartbeats 1000000 in
theorem tblock_any (nn : Int) (A1 : Option Addr) (l1 c1 : Nat) (A2 : Option Addr) (l2 c2 : Nat) (bb mm : Int) (w : World) :
    Calls Tryz.prog 114 #[caV nn A1 l1 c1 A2 l2 c2 bb mm] w fun e w' => e = .returned (.int .i64 (blkC bb : Nat)) ∧ Keep Nil w w' := by
  unfold caV
  obtain ⟨W0, hW0⟩ : ∃ W0, W0 = w.alloc (.cells #[.int .i64 nn, .slice A1 l1 c1, .slice A2 l2 c2, .int .i64 bb, .int .i64 mm] 124) := ⟨_, rfl⟩
  have HK0 := Hid.intro_ (show Keep Nil w W0 by rw [hW0]; exact (Keep.refl Nil w).alloc _)
  have hb0 : Blk W0 w.heap.size 124 #[.int .i64 nn, .slice A1 l1 c1, .slice A2 l2 c2, .int .i64 bb, .int .i64 mm] := by rw [hW0]; exact Blk.new w _ _
  have c3 : W0.cell? ⟨w.heap.size, 3, none⟩ = some (.int .i64 bb) := hb0.at_ 3
  have HBL := Hid.intro_ (fun W => lbelow_any bb 9 (by omega) W)
  have h2 := Int.emod_nonneg bb (b := 9) (by omega)
  have h3 := Int.emod_lt_of_pos bb (b := 9) (by omega)
  have hv : ((blkC bb : Nat) : Int) = 64 + 32 * (bb % 9) := by unfold blkC; omega
  rw [hv]
  obtain ⟨x, hx⟩ : ∃ x, x = bb % 9 := ⟨_, rfl⟩
  rw [← hx] at h2 h3 HBL ⊢
  have hw1 : wrap64 (32 * x) = 32 * x := wrap_low _ (by omega)
  have hw2 : IntKind.i64.wrap (32 * x) = 32 * x := by rw [IntKind.wrap_i64]; omega
  have hw3 : wrap64 (64 + 32 * x) = 64 + 32 * x := wrap_low _ (by omega)
  have hw4 : IntKind.i64.wrap (64 + 32 * x) = 64 + 32 * x := by rw [IntKind.wrap_i64]; omega
  clear hb0 hx hv
  go_enter Tryz.func114, Tryz.ntmps114
  go_upto_region 1 with (fail)
  rw [← hW0]
  clear hW0
  go_wp2_with (go_at_call 54; refine (HBL.out _).mono ?_; rintro e w' ⟨rfl, hw⟩; obtain rfl := hw.symm)
  go_ret
  exact ⟨rfl, HK0.out⟩
def caseF (nn : Int) (at_ : List Int) (bits : List Bool) : FnN := makeN (nn % 65537).toNat at_ bits
theorem caseF_ok (nn : Int) (at_ : List Int) (bits : List Bool) : FnOk (caseF nn at_ bits) ∧ (caseF nn at_ bits).n ≤ 65536 := by
  refine ⟨makeN_ok _ _ _, ?_⟩
  show (nn % 65537).toNat ≤ 65536
  have h3 := Int.emod_lt_of_pos nn (b := 65537) (by omega)
  omega
structure CaAt (w : World) (A1 : Option Addr) (at_ : List Int) (A2 : Option Addr) (bits : List Bool) : Prop where
  la : Rd w A1 (intsL at_)
  sa : at_ = [] ∨ Spotless A1
  na : at_.length ≤ 9223372036854775807
  lb : Rd w A2 (boolsV bits)
  sb : bits = [] ∨ Spotless A2
  nb : bits.length ≤ 9223372036854775807
theorem CaAt.nil {w w' : World} {A1 A2 : Option Addr} {at_ : List Int} {bits : List Bool} (h : CaAt w A1 at_ A2 bits) (k : Keep Nil w w') : CaAt w' A1 at_ A2 bits := ⟨h.la.keep k (fun _ _ _ h => h), h.sa, h.na, h.lb.keep k (fun _ _ _ h => h), h.sb, h.nb⟩
theorem fn_stored {w w2 : World} {t : TypeId} {F : FnN} {C D : Option Addr} {T : Nat} {x0 x1 x2 : Value} (hb : Blk w2 T t #[x0, x1, x2]) (hT : w.heap.size ≤ T) (k : Keep Nil w w2) (hf : FnAt w2 F C D) (hC : ∀ a, C = some a → ¬ a.block = T) (hD : ∀ a, D = some a → ¬ a.block = T) (u0 u1 u2 : Value) (X : World) (hX : X = ((w2.setCell ⟨T, 0, none⟩ u0).setCell ⟨T, 1, none⟩ u1).setCell ⟨T, 2, none⟩ u2) :
    X.cell? ⟨T, 0, none⟩ = some u0 ∧ X.cell? ⟨T, 1, none⟩ = some u1 ∧ X.cell? ⟨T, 2, none⟩ = some u2 ∧ FnAt X F C D ∧ Keep Nil w X := by
  subst hX
  have h1 : Blk (w2.setCell ⟨T, 0, none⟩ u0) T t #[u0, x1, x2] := hb.set_ 0 u0
  have h2 : Blk ((w2.setCell ⟨T, 0, none⟩ u0).setCell ⟨T, 1, none⟩ u1) T t #[u0, u1, x2] := h1.set_ 1 u1
  have h3 : Blk (((w2.setCell ⟨T, 0, none⟩ u0).setCell ⟨T, 1, none⟩ u1).setCell ⟨T, 2, none⟩ u2) T t #[u0, u1, u2] := h2.set_ 2 u2
  have kX : Keep (fun z => z = T) w2 (((w2.setCell ⟨T, 0, none⟩ u0).setCell ⟨T, 1, none⟩ u1).setCell ⟨T, 2, none⟩ u2) := (((Keep.refl (fun z => z = T) w2).setCell (p := ⟨T, 0, none⟩) (fun _ => rfl) _).setCell (p := ⟨T, 1, none⟩) (fun _ => rfl) _).setCell (p := ⟨T, 2, none⟩) (fun _ => rfl) _
  exact ⟨h3.at_ 0, h3.at_ 1, h3.at_ 2, ⟨hf.la.keep kX (fun a e _ e2 => hC a e e2), hf.sa, hf.lb.keep kX (fun a e _ e2 => hD a e e2), hf.sb⟩, k.trans kX (fun z hz e => by have e : z = T := e; omega)⟩
set_option maxRecDepth 100000 in
set_option maxHeartbeats 4000000 in
theorem function_any (nn : Int) (A1 : Option Addr) (c1 : Nat) (at_ : List Int) (A2 : Option Addr) (c2 : Nat) (bits : List Bool) (bb mm : Int) (w : World) (h : CaAt w A1 at_ A2 bits) :
    Calls Tryz.prog 116 #[caV nn A1 at_.length c1 A2 bits.length c2 bb mm] w (MkPost w (caseF nn at_ bits)) := by
  obtain ⟨n, hn⟩ : ∃ n : Nat, n = (nn % 65537).toNat := ⟨_, rfl⟩
  have h2 := Int.emod_nonneg nn (b := 65537) (by omega)
  have h3 := Int.emod_lt_of_pos nn (b := 65537) (by omega)
  have hnc : nn % 65537 = (n : Int) := by omega
  have hn16 : n ≤ 65536 := by omega
  have HMK := Hid.intro_ (fun W (k : Keep Nil w W) => make_any n A1 c1 at_ A2 c2 bits W hn16 (h.nil k).la h.sa h.na (h.nil k).lb h.sb h.nb)
  have HBL := Hid.intro_ (fun W => lbelow_any nn 65537 (by omega) W)
  rw [hnc] at HBL
  unfold caseF caV
  rw [← hn]
  obtain ⟨F, hF⟩ : ∃ F, F = makeN n at_ bits := ⟨_, rfl⟩
  obtain ⟨l1, hl1⟩ : ∃ l, l = at_.length := ⟨_, rfl⟩
  obtain ⟨l2, hl2⟩ : ∃ l, l = bits.length := ⟨_, rfl⟩
  rw [← hF, ← hl1, ← hl2] at HMK
  rw [← hF, ← hl1, ← hl2]
  obtain ⟨W0, hW0⟩ : ∃ W0, W0 = (w.alloc (.cells #[.int .i64 nn, .slice A1 l1 c1, .slice A2 l2 c2, .int .i64 bb, .int .i64 mm] 124)).alloc (.cells #[.int .i64 0, .slice none 0 0, .slice none 0 0] 226) := ⟨_, rfl⟩
  have HK0 := Hid.intro_ (show Keep Nil w W0 by rw [hW0]; exact ((Keep.refl Nil w).alloc _).alloc _)
  have hb0 : Blk W0 w.heap.size 124 #[.int .i64 nn, .slice A1 l1 c1, .slice A2 l2 c2, .int .i64 bb, .int .i64 mm] := by rw [hW0]; exact (Blk.new w _ _).keep ((Keep.refl Nil _).alloc _) (fun h => h)
  have hr0 : Blk W0 (w.heap.size + 1) 226 #[.int .i64 0, .slice none 0 0, .slice none 0 0] := by rw [hW0]; exact Blk.new_at _ _ _ (by simp)
  have c0 : W0.cell? ⟨w.heap.size, 0, none⟩ = some (.int .i64 nn) := hb0.at_ 0
  have c1' : W0.cell? ⟨w.heap.size, 1, none⟩ = some (.slice A1 l1 c1) := hb0.at_ 1
  have c2' : W0.cell? ⟨w.heap.size, 2, none⟩ = some (.slice A2 l2 c2) := hb0.at_ 2
  have HR0 := Hid.intro_ hr0
  have HLT := Hid.intro_ (show w.heap.size + 1 < W0.heap.size from hr0.lt)
  have k1 := (Keep.refl Nil W0).drew
  clear h hn h2 h3 hF hl1 hl2 hb0 hr0 hnc
  go_enter Tryz.func116, Tryz.ntmps116
  go_upto_region 1 with (fail)
  rw [← hW0]
  clear hW0
  go_region_held3 (fun w' => w'.cell? ⟨w.heap.size, 0, none⟩ = some (.int .i64 nn) ∧ w'.cell? ⟨w.heap.size, 1, none⟩ = some (.slice A1 l1 c1) ∧ w'.cell? ⟨w.heap.size, 2, none⟩ = some (.slice A2 l2 c2))
    (first | exact ⟨c0, c1', c2'⟩ | exact ⟨cell_keep c0 k1 (fun h => h), cell_keep c1' k1 (fun h => h), cell_keep c2' k1 (fun h => h)⟩ | exact ⟨cell_keep c0 k3 (fun h => h), cell_keep c1' k3 (fun h => h), cell_keep c2' k3 (fun h => h)⟩ | exact ⟨cell_keep c0 kS hT0, cell_keep c1' kS hT0, cell_keep c2' kS hT0⟩)
    (first
      | (go_at_call 54; refine (HBL.out _).mono ?_; rintro e w' ⟨rfl, hw⟩; obtain rfl := hw.symm)
      | (go_at_call 175; refine (HMK.out _ (HK0.out.then_ k1)).mono ?_; rintro e w3 ⟨⟨C, cc, D, cd, rfl, hfa, k3', hC, hD⟩⟩
         have k3 : Keep Nil W0 w3 := k1.then_ k3'
         have br := HR0.out.keep k3 (fun h => h)
         have r0 : w3.cell? ⟨w.heap.size + 1, 0, none⟩ = some (.int .i64 0) := br.at_ 0
         have r1 : w3.cell? ⟨w.heap.size + 1, 1, none⟩ = some (.slice none 0 0) := br.at_ 1
         have r2 : w3.cell? ⟨w.heap.size + 1, 2, none⟩ = some (.slice none 0 0) := br.at_ 2
         have f0 := br.fr 0
         have f1 := br.fr 1
         have f2 := br.fr 2
         have HFA := Hid.intro_ hfa
         have HBR := Hid.intro_ br
         have HK3 := Hid.intro_ (HK0.out.then_ k3)
         have HC := Hid.intro_ hC
         have HD := Hid.intro_ hD
         have HSZ := Hid.intro_ k1.size
         clear hfa br hC hD k3'
         unfold fnV
         obtain ⟨x0, hx0⟩ : ∃ x, x = F.n := ⟨_, rfl⟩
         obtain ⟨x1, hx1⟩ : ∃ x, x = F.at_.length := ⟨_, rfl⟩
         obtain ⟨x2, hx2⟩ : ∃ x, x = F.bits.length := ⟨_, rfl⟩
         rw [← hx0, ← hx1, ← hx2]
         have HX := Hid.intro_ (And.intro hx0 (And.intro hx1 hx2))
         have hT0 : ¬ w.heap.size = w.heap.size + 1 := by omega
         have kS : Keep (fun z => z = w.heap.size + 1) W0 (((w3.setCell ⟨w.heap.size + 1, 0, none⟩ (.int .i64 x0)).setCell ⟨w.heap.size + 1, 1, none⟩ (.slice C x1 cc)).setCell ⟨w.heap.size + 1, 2, none⟩ (.slice D x2 cd)) := (((k3.mono (G := fun z => z = w.heap.size + 1) (fun _ _ h => h.elim)).setCell (p := ⟨w.heap.size + 1, 0, none⟩) (fun _ => rfl) _).setCell (p := ⟨w.heap.size + 1, 1, none⟩) (fun _ => rfl) _).setCell (p := ⟨w.heap.size + 1, 2, none⟩) (fun _ => rfl) _
         clear hx0 hx1 hx2))
  go_wp2_with fail
  obtain ⟨X, hX⟩ : ∃ X, X = ((w3.setCell ⟨w.heap.size + 1, 0, none⟩ (.int .i64 x0)).setCell ⟨w.heap.size + 1, 1, none⟩ (.slice C x1 cc)).setCell ⟨w.heap.size + 1, 2, none⟩ (.slice D x2 cd) := ⟨_, rfl⟩
  rw [← hX]
  obtain ⟨y0, y1, y2, hfn, hk⟩ := fn_stored HBR.out (by omega) HK3.out HFA.out (fun a e e2 => by have := HC.out a e; have := HSZ.out; have := HLT.out; omega) (fun a e e2 => by have := HD.out a e; have := HSZ.out; have := HLT.out; omega) _ _ _ X hX
  clear hX
  have hfin : MkPost w F (.returned (.agg #[.int .i64 x0, .slice C x1 cc, .slice D x2 cd])) X := ⟨⟨C, cc, D, cd, by unfold fnV; rw [← HX.out.1, ← HX.out.2.1, ← HX.out.2.2], hfn, hk, fun a e => by have := HC.out a e; have := HSZ.out; have := HLT.out; omega, fun a e => by have := HD.out a e; have := HSZ.out; have := HLT.out; omega⟩⟩
  refine bodyPost_ret (v := .agg #[.int .i64 x0, .slice C x1 cc, .slice D x2 cd]) (by simp [results, Tryz.results116, go_sem, y0, y1, y2]) rfl hfin
end Go.Proofs.YtadipinnbehhhaaGreatDoor
namespace Go.Proofs.YtadipinnbehhhaaGreatDoor
open Go.ChangeShapes Go.WideShapes Go.ChangeAt Go.WideMaps Go.WideElems Go.RowKit Go.Deep

theorem ints_in {H : Type} {enc : TypeId × Value → H} {W : World} {cs : List Value} {n : Nat} {x : DataW H × List MemPlace} (h : DataW.trod enc Tryz.prog W 0 (fun _ => true) true n 68 cs = some x) :
    ∃ (A : Option Addr) (c : Nat) (si : List Int), cs = [.slice A si.length c] ∧ Rd W A (intsL si) ∧ (si = [] ∨ Spotless A) ∧ si.length ≤ 9223372036854775807 := by
  rcases open_slice Tryz.underlying68 h with ⟨e, _⟩ | ⟨a, len, cap, m, n', D, Pl, e, _, hl, hmx, hm, _, hi⟩
  · exact ⟨none, 0, [], e, Rd.nil _ _, .inl rfl, by simp⟩
  · have kc1 : Tryz.prog.cellsOf 3 = 1 := by kernel_rfl
    obtain ⟨si, h1, h3⟩ := ints_list (W := W) (a := a) len (fun i hil => by
      obtain ⟨cs', hc, ht⟩ := hi i (by rw [hm]; simp; omega)
      rw [kc1, Nat.mul_one] at hc
      obtain ⟨_, hcl, hat⟩ := World.cells?_some hc
      obtain ⟨y, hy, _, _⟩ := DataW.trod_int Tryz.underlying3 ht
      have := hat 0 (by omega)
      rw [hy] at this
      rw [show (a.add i).add 0 = a.add i by rw [Addr.add_add]; rfl] at this
      exact ⟨y, this⟩)
    have hrd : Rd W (some a) (intsL si) := fun j u hu => ⟨a, rfl, h3 j u hu⟩
    refine ⟨some a, cap, si, by rw [h1]; exact e, hrd, ?_, by rw [h1]; unfold maxLen at hmx; omega⟩
    by_cases hs : si = []
    · exact .inl hs
    · exact .inr (fun b eb => (rd_blk hrd (fun e => hs (by unfold intsL at e; simpa using e)) b eb).1)
set_option maxRecDepth 100000 in
theorem tcase_of {H : Type} {enc : TypeId × Value → H} {W : World} {v : Value} {d : DataW H} {p : List MemPlace} {base : Nat} (hv : Value.okWide Tryz.prog W .any base 124 v) (h : DataW.Trod enc Tryz.prog W 0 (fun _ => true) true 124 v d p) :
    ∃ (nn : Int) (A1 : Option Addr) (c1 : Nat) (at_ : List Int) (A2 : Option Addr) (c2 : Nat) (bits : List Bool) (bb mm : Int), v = caV nn A1 at_.length c1 A2 bits.length c2 bb mm ∧ CaAt W A1 at_ A2 bits := by
  have kc : Tryz.prog.cellsOf 124 = 5 := by kernel_rfl
  obtain ⟨cs, rfl, hsz⟩ := okWide_struct Tryz.underlying124 hv
  rw [kc] at hsz
  obtain ⟨n, hn⟩ := h
  obtain ⟨xs, m, _, _, _, hlen, hf⟩ := DataW.trod_struct Tryz.underlying124 hn
  have h0 := hf 0 _ rfl
  have h1 := hf 1 _ rfl
  have h2 := hf 2 _ rfl
  have h3 := hf 3 _ rfl
  have h4 := hf 4 _ rfl
  have hg : ∀ k, k < 5 → ∃ y, xs[k]? = some y := fun k hk => ⟨_, List.getElem?_eq_getElem (by have := hlen; simp at this; omega)⟩
  obtain ⟨y0, e0⟩ := hg 0 (by omega)
  obtain ⟨y1, e1⟩ := hg 1 (by omega)
  obtain ⟨y2, e2⟩ := hg 2 (by omega)
  obtain ⟨y3, e3⟩ := hg 3 (by omega)
  obtain ⟨y4, e4⟩ := hg 4 (by omega)
  rw [e0] at h0
  rw [e1] at h1
  rw [e2] at h2
  rw [e3] at h3
  rw [e4] at h4
  simp only [Value.cells] at h0 h1 h2 h3 h4
  obtain ⟨l⟩ := cs
  match l, hsz with
  | [u0, u1, u2, u3, u4], _ =>
    obtain ⟨nn, q0, _⟩ := arr_num (o := 0) Tryz.underlying3 h0
    obtain ⟨A1, c1, si, q1, r1, s1, n1⟩ := ints_in h1
    obtain ⟨v2, bl, q2, hbl⟩ := bools_of h2
    obtain ⟨bb, q3, _⟩ := arr_num (o := 3) Tryz.underlying3 h3
    obtain ⟨mm, q4, _⟩ := arr_num (o := 4) Tryz.underlying3 h4
    obtain ⟨A2, c2, e5, r2, s2, n2⟩ := hbl.out
    have q1' : [u1] = [Value.slice A1 si.length c1] := q1
    have q2' : [u2] = [v2] := q2
    obtain rfl : u0 = Value.int .i64 nn := Option.some.inj q0
    obtain rfl : u1 = Value.slice A1 si.length c1 := (List.cons.inj q1').1
    obtain rfl : u2 = v2 := (List.cons.inj q2').1
    obtain rfl : u3 = Value.int .i64 bb := Option.some.inj q3
    obtain rfl : u4 = Value.int .i64 mm := Option.some.inj q4
    subst e5
    refine ⟨nn, A1, c1, si, A2, c2, bl, bb, mm, rfl, ⟨r1, s1, n1, r2, ?_, n2⟩⟩
    by_cases hs : bl = []
    · exact .inl hs
    · exact .inr (fun b eb => (s2 hs b eb).1)
end Go.Proofs.YtadipinnbehhhaaGreatDoor
namespace Go.Proofs.YtadipinnbehhhaaGreatDoor
open Go.RowKit

end Go.Proofs.YtadipinnbehhhaaGreatDoor
namespace Go.Proofs.YtadipinnbehhhaaGreatDoor
open Go.RowKit

def ndFile (L : List R4) (block : Nat) : AFile := ⟨true, blocksB 2 L block⟩
section
variable {block K : Nat} {L1 L2 : List R4} {F1 F2 : AFile}
theorem nd_len (L : List R4) (hF : fit block = K) (h0 : 0 < K) : (ndFile L block).blocks.length ≤ L.length := by
  have hb : 0 < block / 32 - 1 := by
    unfold fit at hF
    split at hF <;> omega
  show (blocksB 2 L block).length ≤ _
  rw [blocksB_len]; exact nblk_le _ _ hb
end
end Go.Proofs.YtadipinnbehhhaaGreatDoor
