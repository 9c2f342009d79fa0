/- NodesAsks: where a node stands; how wide a diagram is. NodesAsks: what the reference says of a diagram: its answer at truths, whether two are the same. NodesAsks: are two diagrams the same, as the reference asks; structs that differ. NodesAsks: the program's Equal at two well-formed files. -/
import Derived.Test.YtadipinnbehhhaaGreatDoorAsksRowAS
namespace Go.Proofs.YtadipinnbehhhaaGreatDoor
open Go.RowKit

set_option maxRecDepth 100000 in
set_option maxHeartbeats 4000000 in
theorem find_any (d : Dg) (A : Option Addr) (cap gs : Nat) (S : List Int) (p : Nat) (w : World) (hd : InRows d) (hr : DgAt w d A) (hS : RowV w gs 3 (ints S)) (hl : S.length = d.v) (hb : ∀ x ∈ S, -1 ≤ x ∧ x ≤ 1099511627776) (hp : p < 18446744073709551616) :
    Calls Tryz.prog 97 #[dgV d A cap, .slice (some ⟨gs, 0, none⟩) d.v d.v, .int .u64 p] w fun e w' => e = .returned (.int .i64 (findL d S p)) ∧ Keep Nil w w' := by
  obtain ⟨v, hv⟩ : ∃ v, v = d.v := ⟨_, rfl⟩
  obtain ⟨r, hr9⟩ : ∃ r, r = d.r := ⟨_, rfl⟩
  obtain ⟨m, hm⟩ : ∃ m, m = d.m := ⟨_, rfl⟩
  obtain ⟨N, hN⟩ : ∃ N, N = d.P.length := ⟨_, rfl⟩
  obtain ⟨W0, hW0⟩ : ∃ W0, W0 = w.alloc (.cells #[.int .i64 v, .int .u64 r, .int .i64 m, .slice A N cap] 86) := ⟨_, rfl⟩
  have HK0 := Hid.intro_ (show Keep Nil w W0 by rw [hW0]; exact (Keep.refl Nil w).alloc _)
  have hB0 : Blk W0 w.heap.size 86 #[.int .i64 v, .int .u64 r, .int .i64 m, .slice A N cap] := by rw [hW0]; exact Blk.new w _ _
  have i0 : W0.cell? ⟨w.heap.size, 0, none⟩ = some (.int .i64 v) := hB0.at_ 0
  have i3 : W0.cell? ⟨w.heap.size, 3, none⟩ = some (.slice A N cap) := hB0.at_ 3
  have hNl : N ≤ 1099511627776 := by have := hd.len; have := hd.lt; omega
  have hvl : v ≤ 65536 := by rw [hv]; exact hd.vars
  have hnd := node_any p v hp W0
  obtain ⟨T, hT⟩ : ∃ T, T = findL d S p := ⟨_, rfl⟩
  rw [← hT]
  have hS0 := hS.keep HK0.out (fun h => h)
  have hR0 := hr.nil HK0.out
  have hi1 := sI_nn p
  have hi2 : sI p < 1099511627776 := by unfold sI; split <;> omega
  have hl2 := sL_lt p
  unfold dgV
  rw [← hv, ← hr9, ← hm, ← hN]
  unfold findL at hT
  simp only at hT
  rw [← hv, ← hN] at hT
  have hlv : nOk p v = true → sL p < v := fun h => by
    unfold nOk at h
    simp only [Bool.and_eq_true, decide_eq_true_eq] at h
    exact h.2
  clear hr9 hm hB0 hd hr hS
  cases hok : nOk p v with
  | false =>
    rw [hok] at hnd hT
    simp only [Bool.false_eq_true, if_false] at hnd hT
    have HND := Hid.intro_ hnd
    have HT := Hid.intro_ hT
    clear hnd hT hlv hok hS0 hR0 hi1 hi2 hl2 hb hl hv hN
    go_enter Tryz.func97, Tryz.ntmps97
    go_upto_region 1 with (fail)
    rw [← hW0]
    clear hW0
    go_wp2_with (go_at_call 153; refine HND.out.mono ?_; rintro e w' ⟨rfl, hw⟩; obtain rfl := hw.symm)
    go_ret
    exact ⟨by rw [HT.out] <;> rfl, HK0.out⟩
  | true =>
    have hlv2 := hlv hok
    rw [hok] at hnd hT
    simp only [if_true] at hnd hT
    obtain ⟨lv, hlve⟩ : ∃ lv : Nat, sL p = (lv : Int) := ⟨(sL p).toNat, by omega⟩
    rw [hlve] at hnd hT hlv2
    rw [Int.toNat_natCast] at hT
    obtain ⟨x, hx⟩ : ∃ x, S[lv]? = some x := ⟨_, List.getElem?_eq_getElem (by omega)⟩
    have hxb := hb x (List.mem_of_getElem? hx)
    have hxd : S.getD lv 0 = x := by rw [List.getD_eq_getElem?_getD, hx]; rfl
    rw [hxd] at hT
    have c0 := hS0.at_ (ints_at hx)
    have hl0 : (0 : Int) ≤ (lv : Int) := by omega
    obtain ⟨id, hid⟩ : ∃ id, id = sI p := ⟨_, rfl⟩
    rw [← hid] at hnd hT hi1 hi2
    have HND := Hid.intro_ hnd
    clear hnd hlv hok hS0 hxd hx hb hl hlve hl2 hid hv
    by_cases h1 : x < 0
    · have HT := Hid.intro_ (show T = -1 by rw [hT, if_pos (.inl h1)])
      clear hT hR0 hN
      go_enter Tryz.func97, Tryz.ntmps97
      go_upto_region 1 with (fail)
      rw [← hW0]
      clear hW0
      go_wp2_with (go_at_call 153; refine HND.out.mono ?_; rintro e w' ⟨rfl, hw⟩; obtain rfl := hw.symm)
      go_ret
      exact ⟨by rw [HT.out] <;> rfl, HK0.out⟩
    by_cases h2 : (N : Int) < id
    · have HT := Hid.intro_ (show T = -1 by rw [hT, if_pos (.inr h2)])
      clear hT hR0 hN
      go_enter Tryz.func97, Tryz.ntmps97
      go_upto_region 1 with (fail)
      rw [← hW0]
      clear hW0
      go_wp2_with (go_at_call 153; refine HND.out.mono ?_; rintro e w' ⟨rfl, hw⟩; obtain rfl := hw.symm)
      go_ret
      exact ⟨by rw [HT.out] <;> rfl, HK0.out⟩
    rw [if_neg (by omega)] at hT
    have hy0 : 0 ≤ x + id := by omega
    have hw1 : wrap64 (x + id) = x + id := wrap_low _ (by omega)
    by_cases h3 : (N : Int) ≤ x + id
    · have HT := Hid.intro_ (show T = -1 by rw [hT, if_pos h3])
      clear hT hR0 hN
      go_enter Tryz.func97, Tryz.ntmps97
      go_upto_region 1 with (fail)
      rw [← hW0]
      clear hW0
      go_wp2_with (go_at_call 153; refine HND.out.mono ?_; rintro e w' ⟨rfl, hw⟩; obtain rfl := hw.symm)
      go_ret
      exact ⟨by rw [HT.out] <;> rfl, HK0.out⟩
    rw [if_neg h3] at hT
    obtain ⟨n, hn⟩ : ∃ n, d.P[(x + id).toNat]? = some n := ⟨_, List.getElem?_eq_getElem (by omega)⟩
    obtain ⟨g, o, hAe, p0, _, _⟩ := nd_at hR0.rd hn hR0.spot
    subst hAe
    have hgd : (d.P.map (·.self)).getD (x + id).toNat 0 = n.self := by rw [List.getD_eq_getElem?_getD, List.getElem?_map, hn]; rfl
    rw [hgd] at hT
    have hi3 : x + id < (N : Int) := by omega
    have hi4 : (x + id).toNat < N := by omega
    obtain ⟨q, hq⟩ : ∃ q, q = n.self := ⟨_, rfl⟩
    rw [← hq] at p0 hT
    by_cases h4 : q = p
    · have HT := Hid.intro_ (show T = x + id by rw [hT, if_pos h4])
      have h5 : ((q : Int) != (p : Int)) = false := by simp [h4]
      clear hT hR0 hN hn hgd hq h4
      go_enter Tryz.func97, Tryz.ntmps97
      go_upto_region 1 with (fail)
      rw [← hW0]
      clear hW0
      go_wp2_with (go_at_call 153; refine HND.out.mono ?_; rintro e w' ⟨rfl, hw⟩; obtain rfl := hw.symm)
      go_ret
      exact ⟨by rw [HT.out] <;> rfl, HK0.out⟩
    · have HT := Hid.intro_ (show T = -1 by rw [hT, if_neg h4])
      have h5 : ((q : Int) != (p : Int)) = true := by
        have : ¬ (q : Int) = (p : Int) := by omega
        simpa using this
      clear hT hR0 hN hn hgd hq h4
      go_enter Tryz.func97, Tryz.ntmps97
      go_upto_region 1 with (fail)
      rw [← hW0]
      clear hW0
      go_wp2_with (go_at_call 153; refine HND.out.mono ?_; rintro e w' ⟨rfl, hw⟩; obtain rfl := hw.symm)
      go_ret
      exact ⟨by rw [HT.out] <;> rfl, HK0.out⟩
set_option maxRecDepth 100000 in
set_option maxHeartbeats 4000000 in
theorem width_any (d : Dg) (A : Option Addr) (cap : Nat) (w : World) (hd : InRows d) (hr : DgAt w d A) :
    Calls Tryz.prog 40 #[dgV d A cap] w fun e w' => e = .returned (.int .i64 d.width) ∧ Keep Nil w w' := by
  obtain ⟨v, hv⟩ : ∃ v, v = d.v := ⟨_, rfl⟩
  obtain ⟨r, hr9⟩ : ∃ r, r = d.r := ⟨_, rfl⟩
  obtain ⟨m, hm⟩ : ∃ m, m = d.m := ⟨_, rfl⟩
  obtain ⟨N, hN⟩ : ∃ N, N = d.P.length := ⟨_, rfl⟩
  obtain ⟨W0, hW0⟩ : ∃ W0, W0 = w.alloc (.cells #[.int .i64 v, .int .u64 r, .int .i64 m, .slice A N cap] 86) := ⟨_, rfl⟩
  have HK0 := Hid.intro_ (show Keep Nil w W0 by rw [hW0]; exact (Keep.refl Nil w).alloc _)
  have HB0 := Hid.intro_ (show Blk W0 w.heap.size 86 #[.int .i64 v, .int .u64 r, .int .i64 m, .slice A N cap] by rw [hW0]; exact Blk.new w _ _)
  have hNl : N ≤ 1099511627776 := by have := hd.len; have := hd.lt; omega
  have HNN := Hid.intro_ hN
  have HWI := Hid.intro_ (show d.width = widthN d.P N by unfold Dg.width; rw [hN, hd.len])
  have HD := Hid.intro_ hd
  have HR := Hid.intro_ hr
  unfold dgV
  rw [← hv, ← hr9, ← hm, ← hN]
  clear hv hr9 hm hN hd hr
  go_enter Tryz.func40, Tryz.ntmps40
  go_upto_region 1 with (fail)
  rw [← hW0]
  clear hW0
  go_wp2_with fail
  go_loopw [3, 4] (fun x i wz => ∃ (q : Nat), q ≤ N ∧ i = .int .i64 q ∧ x = .int .i64 (widthN d.P q) ∧ wz = W0) (fun _ i _ => N - (intOf i).toNat)
  case atStart => exact ⟨0, Nat.zero_le _, rfl, rfl, rfl⟩
  case round =>
    obtain ⟨q, hqm, rfl, rfl, hwz⟩ := hrel
    obtain rfl := hwz.symm
    have bI := HB0.out
    have i3 : W0.cell? ⟨w.heap.size, 3, none⟩ = some (.slice A N cap) := bI.at_ 3
    clear bI
    by_cases hlq : q < N
    · obtain ⟨n, hn⟩ : ∃ n, d.P[q]? = some n := ⟨_, List.getElem?_eq_getElem (by have := HNN.out; omega)⟩
      obtain ⟨g, o, hAe, p0, p1, p2⟩ := nd_at (HR.out.nil HK0.out).rd hn HR.out.spot
      subst hAe
      have hmem := List.mem_of_getElem? hn
      have HSP := Hid.intro_ (rsplit_t n.self (by have := (HD.out.okn n hmem).1; omega) W0)
      have hqi : (q : Int) < (N : Int) := by omega
      have hq0 : (0 : Int) ≤ (q : Int) := by omega
      have hstep : Hid (widthN d.P (q + 1) = max (widthN d.P q) (sI n.self + 1)) := Hid.intro_ (by
        show (match d.P[q]? with | none => _ | some n => _) = _
        rw [hn])
      have hbd := widthN_bd d.P q
      have hi1 := sI_nn n.self
      have hi2 : sI n.self < 1099511627776 := by unfold sI; split <;> omega
      obtain ⟨id, hid⟩ : ∃ id, id = sI n.self := ⟨_, rfl⟩
      rw [← hid] at HSP hstep hi1 hi2
      obtain ⟨x, hx⟩ : ∃ x, x = widthN d.P q := ⟨_, rfl⟩
      rw [← hx] at hbd hstep ⊢
      have hw1 : wrap64 (id + 1) = id + 1 := wrap_low _ (by omega)
      clear hn hmem hid hx
      go_wp2_with (go_at_call 82; refine HSP.out.mono ?_; rintro e w' ⟨rfl, hw⟩; obtain rfl := hw.symm)
      go_roundw
      case rel => exact ⟨q + 1, by omega, by go_num, by rw [hstep.out], trivial⟩
      case measure => simp [intOf]; omega
    · obtain rfl : q = N := by omega
      go_wp2_with fail
      go_ret
      exact ⟨by rw [HWI.out] <;> rfl, HK0.out⟩
end Go.Proofs.YtadipinnbehhhaaGreatDoor
namespace Go.Proofs.YtadipinnbehhhaaGreatDoor
open Go.RowKit

theorem starts_len (d : Dg) : d.starts.length = d.v := startsN_len d.v d.P d.m
theorem starts_bd40 {d : Dg} (h : InRows d) : ∀ x ∈ d.starts, -1 ≤ x ∧ x ≤ 1099511627776 := fun x hx => by
  have h1 := startsN_bd d.v d.P d.m x hx
  have h2 := h.lt
  omega
set_option maxRecDepth 100000 in
set_option maxHeartbeats 8000000 in
theorem reval_any (d : Dg) (A B : Option Addr) (cap bc : Nat) (bits : List Bool) (w : World) (ok : DgOk d) (hr : DgAt w d A) (hn : bits.length = d.v) (hB : Rd w B (boolsV bits)) (hBs : bits ≠ [] → ∀ a, B = some a → a.spot = none) :
    Calls Tryz.prog 38 #[dgV d A cap, .slice B bits.length bc] w fun e w' => e = .returned (.bool (d.eval bits)) ∧ Keep Nil w w' := by
  obtain ⟨v, hv⟩ : ∃ v, v = d.v := ⟨_, rfl⟩
  obtain ⟨r, hr9⟩ : ∃ r, r = d.r := ⟨_, rfl⟩
  obtain ⟨m, hm⟩ : ∃ m, m = d.m := ⟨_, rfl⟩
  obtain ⟨N, hN⟩ : ∃ N, N = d.P.length := ⟨_, rfl⟩
  obtain ⟨n, hnn⟩ : ∃ n, n = bits.length := ⟨_, rfl⟩
  obtain ⟨W0, hW0⟩ : ∃ W0, W0 = w.alloc (.cells #[.int .i64 v, .int .u64 r, .int .i64 m, .slice A N cap] 86) := ⟨_, rfl⟩
  have HK0 := Hid.intro_ (show Keep Nil w W0 by rw [hW0]; exact (Keep.refl Nil w).alloc _)
  have HB0 := Hid.intro_ (show Blk W0 w.heap.size 86 #[.int .i64 v, .int .u64 r, .int .i64 m, .slice A N cap] by rw [hW0]; exact Blk.new w _ _)
  have i0 : W0.cell? ⟨w.heap.size, 0, none⟩ = some (.int .i64 v) := HB0.out.at_ 0
  have i1 : W0.cell? ⟨w.heap.size, 1, none⟩ = some (.int .u64 r) := HB0.out.at_ 1
  have i2 : W0.cell? ⟨w.heap.size, 2, none⟩ = some (.int .i64 m) := HB0.out.at_ 2
  have i3 : W0.cell? ⟨w.heap.size, 3, none⟩ = some (.slice A N cap) := HB0.out.at_ 3
  have hNl : N ≤ 1099511627776 := by have := ok.rows.len; have := ok.rows.lt; omega
  have hnl : n ≤ 65536 := by have := ok.rows.vars; omega
  have hstt := starts_any d A cap W0 ok.rows (hr.nil HK0.out)
  have hfnd : ∀ (W : World) (gs p : Nat), Keep Nil w W → RowV W gs 3 (ints d.starts) → p < 18446744073709551616 → Calls Tryz.prog 97 #[dgV d A cap, .slice (some ⟨gs, 0, none⟩) d.v d.v, .int .u64 p] W fun e w' => e = .returned (.int .i64 (findL d d.starts p)) ∧ Keep Nil W w' := fun W gs p k hS hp =>
    find_any d A cap gs d.starts p W ok.rows (hr.nil k) hS (starts_len d) (starts_bd40 ok.rows) hp
  unfold dgV at hstt hfnd ⊢
  rw [← hv, ← hr9, ← hm, ← hN] at hstt
  rw [← hv, ← hr9, ← hm, ← hN] at hfnd
  rw [← hv, ← hr9, ← hm, ← hN, ← hnn]
  have HST := Hid.intro_ hstt
  have HFD := Hid.intro_ hfnd
  have HOK := Hid.intro_ ok
  have HR := Hid.intro_ hr
  have HBB := Hid.intro_ hB
  have HBS := Hid.intro_ hBs
  have HNN := Hid.intro_ hnn
  have HV := Hid.intro_ hv
  have HRR := Hid.intro_ hr9
  have HNL := Hid.intro_ hN
  have HBN := Hid.intro_ hn
  obtain ⟨an, han⟩ : ∃ an, an = d.eval bits := ⟨_, rfl⟩
  have HAN := Hid.intro_ han
  rw [← han]
  clear hv hr9 hm hN hnn ok hr hB hBs hstt hfnd hn han
  go_enter Tryz.func38, Tryz.ntmps38
  go_upto_region 1 with (fail)
  rw [← hW0]
  clear hW0
  go_wp2_with fail
  refine HST.out.mono ?_
  rintro e w1 ⟨gs, rfl, hgl, hrow, k1⟩
  have hb1 := HB0.out.keep k1 (fun h => h)
  have j1 : w1.cell? ⟨w.heap.size, 1, none⟩ = some (.int .u64 r) := hb1.at_ 1
  have HROW := Hid.intro_ hrow
  have K1 := Hid.intro_ k1
  clear hrow k1 hb1
  go_wp2_with fail
  go_loopg [6] 65537 (fun gk p wr => ∃ (pn : Nat), p = .int .u64 pn ∧ Hid (EvI d bits pn gk) ∧ Hid (Keep Nil w1 wr))
  case atStart => exact ⟨d.r, by rw [HRR.out], Hid.intro_ (EvI.start HOK.out), Hid.intro_ (Keep.refl _ _)⟩
  case round =>
    obtain ⟨pn, rfl, HE, HK⟩ := hrel
    have hpl := HE.out.lt
    obtain ⟨lf, hlf⟩ : ∃ lf, lf = sF pn := ⟨_, rfl⟩
    cases lf with
    | true =>
      have hfin := HE.out.ends hlf.symm
      have HFIN := Hid.intro_ (hfin.trans (sV_is pn))
      have hor : pn = 9223372036854775808 ∨ pn = 9223372036854775809 := by
        have := hlf.symm
        unfold sF at this
        simpa using this
      clear hlf hfin
      rcases hor with h1 | h1
      · have q1 : ((pn : Int) != 9223372036854775808) = false := by rw [h1]; rfl
        clear h1
        go_wp2_with fail
        go_ret
        exact ⟨by rw [HAN.out, HFIN.out] <;> rfl, HK0.out.then_ (K1.out.then_ HK.out)⟩
      · have q1 : ((pn : Int) != 9223372036854775808) = true := by rw [h1]; rfl
        have q2 : ((pn : Int) != 9223372036854775809) = false := by rw [h1]; rfl
        clear h1
        go_wp2_with fail
        go_ret
        exact ⟨by rw [HAN.out, HFIN.out] <;> rfl, HK0.out.then_ (K1.out.then_ HK.out)⟩
    | false =>
      obtain ⟨i, x, hx, hxp, hfi, hno⟩ := HE.out.at_ hlf.symm
      have hil := (List.getElem?_eq_some_iff.1 hx).1
      have hq : ¬ pn = 9223372036854775808 ∧ ¬ pn = 9223372036854775809 := by
        have := hlf.symm
        unfold sF at this
        simpa using this
      have q1 : ((pn : Int) != 9223372036854775808) = true := by
        have : ¬ (pn : Int) = 9223372036854775808 := by omega
        simpa using this
      have q2 : ((pn : Int) != 9223372036854775809) = true := by
        have : ¬ (pn : Int) = 9223372036854775809 := by omega
        simpa using this
      have hmem := List.mem_of_getElem? hx
      have hlv := node_lv HOK.out.rows hmem
      rw [hxp] at hlv
      obtain ⟨lv, hlve⟩ : ∃ lv : Nat, sL pn = (lv : Int) := ⟨(sL pn).toNat, by omega⟩
      rw [hlve] at hlv
      have hlvn : lv < n := by have := HV.out; have := HBN.out; have := HNN.out; omega
      have hsp := rsplit_t pn hpl
      rw [hlve] at hsp
      have HSP := Hid.intro_ hsp
      have hkk := HK0.out.then_ (K1.out.then_ HK.out)
      have hfd := HFD.out wr gs pn hkk (HROW.out.keep HK.out (fun h => h)) hpl
      rw [hfi] at hfd
      have HFW := Hid.intro_ hfd
      obtain ⟨bt, hbt⟩ : ∃ bt, bits[lv]? = some bt := ⟨_, List.getElem?_eq_getElem (by have := HNN.out; omega)⟩
      obtain ⟨g2, o2, hBe, cb0⟩ := bl_at (HBB.out.keep hkk (fun _ _ _ h => h)) hbt (HBS.out (fun e => by rw [e] at hbt; simp at hbt))
      obtain ⟨g, o, hAe, p0, p1, p2⟩ := nd_at (HR.out.nil hkk).rd hx HR.out.spot
      subst hBe hAe
      have hb0 := HB0.out.keep (K1.out.then_ HK.out) (fun h => h)
      have e0 : wr.cell? ⟨w.heap.size, 0, none⟩ = some (.int .i64 v) := hb0.at_ 0
      have e1 : wr.cell? ⟨w.heap.size, 1, none⟩ = some (.int .u64 r) := hb0.at_ 1
      have e2 : wr.cell? ⟨w.heap.size, 2, none⟩ = some (.int .i64 m) := hb0.at_ 2
      have e3 : wr.cell? ⟨w.heap.size, 3, none⟩ = some (.slice (some ⟨g, o, none⟩) N cap) := hb0.at_ 3
      have hstep := HE.out.step HOK.out hlf.symm hx hxp
      have hkid := kid_t (n := x) (by rw [hxp]; exact hlve) hbt
      have hfuel := HE.out.fuel hlf.symm
      have hsl := sL_lt pn
      have hgk0 : 0 < gk := by omega
      have HSTEP := Hid.intro_ hstep.1
      have HKID := Hid.intro_ hkid
      have hl0 : (0 : Int) ≤ (lv : Int) := by omega
      have hl1 : (lv : Int) < (n : Int) := by omega
      have hi0 : (0 : Int) ≤ (i : Int) := by omega
      have hi1 : (i : Int) < (N : Int) := by have := HNL.out; omega
      have hi2 : ¬ (i : Int) < 0 := by omega
      obtain ⟨a2, ha2⟩ : ∃ a2, a2 = x.low := ⟨_, rfl⟩
      obtain ⟨a3, ha3⟩ : ∃ a3, a3 = x.high := ⟨_, rfl⟩
      rw [← ha2] at p1
      rw [← ha3] at p2
      rw [← ha2, ← ha3] at HKID
      have CB := Hid.intro_ cb0
      have P12 := Hid.intro_ (And.intro p1 p2)
      have E3 := Hid.intro_ hb0
      clear hlf hfi hno hq hmem hlv hlve hsp hkk hfd hbt hx hxp hstep hkid hfuel hsl ha2 ha3 p0 p1 p2 cb0 hb0
      cases bt
      all_goals
        go_wp2_with (first
          | (go_at_call 97; refine HFW.out.mono ?_; rintro e wf ⟨rfl, kf⟩
             have KF := Hid.intro_ kf
             have c2 := cell_keep CB.out kf (fun h => h)
             have c3 := cell_keep P12.out.1 kf (fun h => h)
             have c4 := cell_keep P12.out.2 kf (fun h => h)
             have f3 : wf.cell? ⟨w.heap.size, 3, none⟩ = some (.slice (some ⟨g, o, none⟩) N cap) := (E3.out.keep kf (fun h => h)).at_ 3
             clear kf)
          | (go_at_call 82; refine (HSP.out _).mono ?_; rintro e w' ⟨rfl, hw⟩; obtain rfl := hw.symm))
        go_roundg (gk - 1)
        case measure => omega
        case rel =>
          first
            | exact ⟨a3, rfl, Hid.intro_ (by
                have := HSTEP.out
                rw [HKID.out] at this
                simpa using this), Hid.intro_ (HK.out.then_ KF.out)⟩
            | exact ⟨a2, rfl, Hid.intro_ (by
                have := HSTEP.out
                rw [HKID.out] at this
                simpa using this), Hid.intro_ (HK.out.then_ KF.out)⟩
end Go.Proofs.YtadipinnbehhhaaGreatDoor
namespace Go.Proofs.YtadipinnbehhhaaGreatDoor
open Go.RowKit

theorem neq_info3 (a b c x y z : Int) (w : World) : (binOp .neq 72 (.agg #[.int .i64 a, .int .u64 b, .int .i64 c]) (.agg #[.int .i64 x, .int .u64 y, .int .i64 z])).run Tryz.prog w = .ok (.bool (!(decide (a = x) && decide (b = y) && decide (c = z)))) w := by
  rw [run_neq_struct]
  have e : (Op.equalIn 10000 72 (.agg #[.int .i64 a, .int .u64 b, .int .i64 c]) (.agg #[.int .i64 x, .int .u64 y, .int .i64 z])).run Tryz.prog w = .ok (decide (a = x) && decide (b = y) && decide (c = z)) w := by
    by_cases h1 : a = x
    · by_cases h2 : b = y
      · by_cases h3 : c = z
        · go_simp
        · go_simp
      · go_simp
    · go_simp
  rw [e]
  rfl
theorem neq_node3 (a b c x y z : Int) (w : World) : (binOp .neq 46 (.agg #[.int .u64 a, .int .u64 b, .int .u64 c]) (.agg #[.int .u64 x, .int .u64 y, .int .u64 z])).run Tryz.prog w = .ok (.bool (!(decide (a = x) && decide (b = y) && decide (c = z)))) w := by
  rw [run_neq_struct]
  have e : (Op.equalIn 10000 46 (.agg #[.int .u64 a, .int .u64 b, .int .u64 c]) (.agg #[.int .u64 x, .int .u64 y, .int .u64 z])).run Tryz.prog w = .ok (decide (a = x) && decide (b = y) && decide (c = z)) w := by
    by_cases h1 : a = x
    · by_cases h2 : b = y
      · by_cases h3 : c = z
        · go_simp
        · go_simp
      · go_simp
    · go_simp
  rw [e]
  rfl
/-- What Same leaves. -/
structure SmPost (d e : Dg) (w : World) (x : Ending) (w' : World) : Prop where mk ::
  out : ∃ b, x = .returned (.bool b) ∧ (b = true ↔ d = e) ∧ Keep Nil w w'
theorem dg_ext {d e : Dg} (h1 : d.v = e.v) (h2 : d.r = e.r) (h3 : d.m = e.m) (h4 : d.P = e.P) : d = e := by
  cases d; cases e
  simp only at h1 h2 h3 h4
  subst h1 h2 h3 h4
  rfl
theorem n3_ext {d e : N3} (h1 : d.self = e.self) (h2 : d.low = e.low) (h3 : d.high = e.high) : d = e := by
  cases d; cases e
  simp only at h1 h2 h3
  subst h1 h2 h3
  rfl
theorem list_ext {α : Type} {l l' : List α} {N : Nat} (h1 : l.length = N) (h2 : l'.length = N) (h : ∀ j, j < N → l[j]? = l'[j]?) : l = l' := by
  refine List.ext_getElem? fun j => ?_
  rcases Nat.lt_or_ge j N with hj | hj
  · exact h j hj
  · rw [List.getElem?_eq_none (by omega), List.getElem?_eq_none (by omega)]
set_option maxRecDepth 100000 in
set_option maxHeartbeats 8000000 in
theorem same_any (d e : Dg) (A B : Option Addr) (cap cap2 : Nat) (w : World) (hd : InRows d) (he : InRows e) (hr : DgAt w d A) (hr2 : DgAt w e B) :
    Calls Tryz.prog 42 #[dgV d A cap, dgV e B cap2] w (SmPost d e w) := by
  obtain ⟨v, hv⟩ : ∃ v, v = d.v := ⟨_, rfl⟩
  obtain ⟨r, hr9⟩ : ∃ r, r = d.r := ⟨_, rfl⟩
  obtain ⟨m, hm⟩ : ∃ m, m = d.m := ⟨_, rfl⟩
  obtain ⟨N, hN⟩ : ∃ N, N = d.P.length := ⟨_, rfl⟩
  obtain ⟨v2, hv2⟩ : ∃ v2, v2 = e.v := ⟨_, rfl⟩
  obtain ⟨r2, hr92⟩ : ∃ r2, r2 = e.r := ⟨_, rfl⟩
  obtain ⟨m2, hm2⟩ : ∃ m2, m2 = e.m := ⟨_, rfl⟩
  obtain ⟨N2, hN2⟩ : ∃ N2, N2 = e.P.length := ⟨_, rfl⟩
  obtain ⟨W0, hW0⟩ : ∃ W0, W0 = (w.alloc (.cells #[.int .i64 v, .int .u64 r, .int .i64 m, .slice A N cap] 86)).alloc (.cells #[.int .i64 v2, .int .u64 r2, .int .i64 m2, .slice B N2 cap2] 86) := ⟨_, rfl⟩
  have HK0 := Hid.intro_ (show Keep Nil w W0 by rw [hW0]; exact ((Keep.refl Nil w).alloc _).alloc _)
  have hB0 : Blk W0 w.heap.size 86 #[.int .i64 v, .int .u64 r, .int .i64 m, .slice A N cap] := by rw [hW0]; exact (Blk.new w _ _).alloc _
  have hB1 : Blk W0 (w.heap.size + 1) 86 #[.int .i64 v2, .int .u64 r2, .int .i64 m2, .slice B N2 cap2] := by rw [hW0]; exact Blk.new_at _ _ _ (by simp)
  have i0 : W0.cell? ⟨w.heap.size, 0, none⟩ = some (.int .i64 v) := hB0.at_ 0
  have i1 : W0.cell? ⟨w.heap.size, 1, none⟩ = some (.int .u64 r) := hB0.at_ 1
  have i2 : W0.cell? ⟨w.heap.size, 2, none⟩ = some (.int .i64 m) := hB0.at_ 2
  have i3 : W0.cell? ⟨w.heap.size, 3, none⟩ = some (.slice A N cap) := hB0.at_ 3
  have j0 : W0.cell? ⟨w.heap.size + 1, 0, none⟩ = some (.int .i64 v2) := hB1.at_ 0
  have j1 : W0.cell? ⟨w.heap.size + 1, 1, none⟩ = some (.int .u64 r2) := hB1.at_ 1
  have j2 : W0.cell? ⟨w.heap.size + 1, 2, none⟩ = some (.int .i64 m2) := hB1.at_ 2
  have j3 : W0.cell? ⟨w.heap.size + 1, 3, none⟩ = some (.slice B N2 cap2) := hB1.at_ 3
  have hneq := neq_info3 (v : Int) r m v2 r2 m2
  by_cases hq : v = v2 ∧ r = r2 ∧ m = m2
  · obtain ⟨e1, e2, e3⟩ := hq
    have hNN : N2 = N := by have := hd.len; have := he.len; omega
    have hb : (!(decide ((v : Int) = v2) && decide ((r : Int) = r2) && decide ((m : Int) = m2))) = false := by rw [e1, e2, e3]; simp
    rw [hb] at hneq
    have HRD := Hid.intro_ (hr.nil HK0.out)
    have HRE := Hid.intro_ (hr2.nil HK0.out)
    have HNL := Hid.intro_ hN
    have HNL2 := Hid.intro_ (show N = e.P.length by omega)
    have HEQ : Hid (d.P = e.P ↔ d = e) := Hid.intro_ ⟨fun h => dg_ext (by omega) (by omega) (by omega) h, fun h => by rw [h]⟩
    have hNl : N ≤ 1099511627776 := by have := hd.len; have := hd.lt; omega
    unfold dgV
    rw [← hv, ← hr9, ← hm, ← hN, ← hv2, ← hr92, ← hm2, ← hN2, hNN]
    rw [hNN] at j3 hW0 hB1
    have HB0 := Hid.intro_ hB0
    have HB1 := Hid.intro_ hB1
    clear hb e1 e2 e3 hv hr9 hm hN hv2 hr92 hm2 hN2 hNN hd he hr hr2 hB0 hB1
    go_enter Tryz.func42, Tryz.ntmps42
    go_upto_region 1 with (fail)
    rw [← hW0]
    clear hW0
    go_wp2_with fail
    go_loopw [5] (fun i wr => ∃ (k : Nat), k ≤ N ∧ i = .int .i64 k ∧ Hid (∀ j, j < k → d.P[j]? = e.P[j]?) ∧ Hid (Keep Nil W0 wr)) (fun i _ => N - (intOf i).toNat)
    case atStart => exact ⟨0, Nat.zero_le _, rfl, Hid.intro_ (fun j hj => by omega), Hid.intro_ (Keep.refl _ _)⟩
    case round =>
      obtain ⟨k, hkm, rfl, HP, HK⟩ := hrel
      have b3 := HB0.out.keep HK.out (fun h => h)
      have b4 := HB1.out.keep HK.out (fun h => h)
      have c3 : wr.cell? ⟨w.heap.size, 3, none⟩ = some (.slice A N cap) := b3.at_ 3
      have c4 : wr.cell? ⟨w.heap.size + 1, 3, none⟩ = some (.slice B N cap2) := b4.at_ 3
      have hbl := b3.lt
      have hbl2 := b4.lt
      clear b3 b4
      by_cases hlt : k < N
      · obtain ⟨x, hx⟩ : ∃ x, d.P[k]? = some x := ⟨_, List.getElem?_eq_getElem (by have := HNL.out; omega)⟩
        obtain ⟨y, hy⟩ : ∃ y, e.P[k]? = some y := ⟨_, List.getElem?_eq_getElem (by have := HNL2.out; omega)⟩
        obtain ⟨g, o, hAe, p0, p1, p2⟩ := nd_at (HRD.out.nil HK.out).rd hx HRD.out.spot
        obtain ⟨g2, o2, hBe, q0, q1, q2⟩ := nd_at (HRE.out.nil HK.out).rd hy HRE.out.spot
        subst hAe hBe
        have hki : (k : Int) < (N : Int) := by omega
        have hk0 : (0 : Int) ≤ (k : Int) := by omega
        have hnq := neq_node3 (x.self : Int) x.low x.high y.self y.low y.high
        by_cases hxy : x = y
        · have hb : (!(decide ((x.self : Int) = y.self) && decide ((x.low : Int) = y.low) && decide ((x.high : Int) = y.high))) = false := by rw [hxy]; simp
          rw [hb] at hnq
          have HPN := Hid.intro_ (show ∀ j, j < k + 1 → d.P[j]? = e.P[j]? from fun j hj => by
            rcases Nat.lt_or_ge j k with h1 | h1
            · exact HP.out j h1
            · have : j = k := by omega
              rw [this, hx, hy, hxy])
          clear hb hx hy hxy hneq
          go_wp2_with fail
          go_cut [37] from 27 to 37 (fun v37 wd => v37 = .bool false ∧ Keep Nil wr wd)
          case first =>
            go_quiet (fail)
            go_wp2_with fail
            go_meet
            exact ⟨rfl, (Keep.refl Nil wr).drewN _⟩
          case rest =>
            obtain ⟨rfl, kX⟩ := hcut
            have KX := Hid.intro_ (HK.out.then_ kX)
            clear kX
            go_wp2_with fail
            go_roundw
            case rel => exact ⟨k + 1, by omega, by go_num, HPN, KX⟩
            case measure => simp [intOf]; omega
        · have hb : (!(decide ((x.self : Int) = y.self) && decide ((x.low : Int) = y.low) && decide ((x.high : Int) = y.high))) = true := by
            have : ¬ ((x.self : Int) = y.self ∧ (x.low : Int) = y.low ∧ (x.high : Int) = y.high) := fun h => hxy (n3_ext (by omega) (by omega) (by omega))
            by_cases h1 : (x.self : Int) = y.self
            · by_cases h2 : (x.low : Int) = y.low
              · have h3 : ¬ (x.high : Int) = y.high := fun h => this ⟨h1, h2, h⟩
                simp [h3]
              · simp [h2]
            · simp [h1]
          rw [hb] at hnq
          have HNE := Hid.intro_ (show ¬ d = e from fun h => by
            rw [h, hy] at hx
            injection hx with hx
            exact hxy hx.symm)
          clear hb hx hy hxy hneq
          go_wp2_with fail
          go_cut [37] from 27 to 37 (fun v37 wd => v37 = .bool true ∧ Keep Nil wr wd)
          case first =>
            go_quiet (fail)
            go_wp2_with fail
            go_meet
            exact ⟨rfl, (Keep.refl Nil wr).drewN _⟩
          case rest =>
            obtain ⟨rfl, kX⟩ := hcut
            have KX := Hid.intro_ (HK.out.then_ kX)
            clear kX
            go_wp2_with fail
            go_ret
            exact ⟨⟨false, rfl, ⟨fun h => (by cases h), fun h => absurd h HNE.out⟩, HK0.out.then_ KX.out⟩⟩
      · obtain rfl : k = N := by omega
        have HYES := Hid.intro_ (show d = e from HEQ.out.1 (list_ext HNL.out.symm HNL2.out.symm HP.out))
        go_wp2_with fail
        go_ret
        exact ⟨⟨true, rfl, ⟨fun _ => HYES.out, fun _ => rfl⟩, HK0.out.then_ HK.out⟩⟩
  · have hb : (!(decide ((v : Int) = v2) && decide ((r : Int) = r2) && decide ((m : Int) = m2))) = true := by
      by_cases h1 : v = v2
      · by_cases h2 : r = r2
        · have h3 : ¬ (m : Int) = m2 := fun h => hq ⟨h1, h2, by omega⟩
          simp [h3]
        · have h2' : ¬ (r : Int) = r2 := by omega
          simp [h2']
      · have h1' : ¬ (v : Int) = v2 := by omega
        simp [h1']
    rw [hb] at hneq
    have HNE := Hid.intro_ (show ¬ d = e from fun h => hq (by rw [hv, hr9, hm, hv2, hr92, hm2, h]; exact ⟨rfl, rfl, rfl⟩))
    unfold dgV
    rw [← hv, ← hr9, ← hm, ← hN, ← hv2, ← hr92, ← hm2, ← hN2]
    clear hb hv hr9 hm hN hv2 hr92 hm2 hN2 hd he hr hr2 hB0 hB1 hq
    go_enter Tryz.func42, Tryz.ntmps42
    go_upto_region 1 with (fail)
    rw [← hW0]
    clear hW0
    go_wp2_with fail
    go_ret
    exact ⟨⟨false, rfl, ⟨fun h => (by cases h), fun h => absurd h HNE.out⟩, HK0.out⟩⟩
end Go.Proofs.YtadipinnbehhhaaGreatDoor
namespace Go.Proofs.YtadipinnbehhhaaGreatDoor
open Go.RowKit

section
variable {X : TX} {w w' : World} {fs : List (ByteArray × AFile)} {rem1 rem2 rest : List R4} {r : R4}
/-- The second's next, a block more meanwhile. -/
theorem TwoK.next2_new (P : TOk X fs) (h : TwoK X rem1 (r :: rest) w) (cs : Array Value) (t : TypeId) :
    Calls Tryz.prog 102 #[.pointer (some ⟨X.b2, 0, none⟩)] (w.alloc (.cells cs t)) fun e w' => e = .returned (.tuple #[r.val, .bool true, .int .i64 0]) ∧ TwoK X rem1 rest w' ∧ Blk w' w.heap.size t cs := by
  obtain ⟨G, s, x1, x2, q1, q2, j, a, b, d, tw, v1, v2⟩ := h.out
  have ka : Keep Nil w (w.alloc (.cells cs t)) := (Keep.refl Nil w).alloc _
  obtain ⟨G1, hr, hsub, via⟩ := (tw.nil ka).via2
  refine (next_live hr v2 P.t2 (b.calm P.calm) rfl).mono fun e w1 ⟨he, hq⟩ => ⟨he, ?_⟩
  obtain ⟨j1, q', x', hj1, hq1, hv1, t1⟩ := hq.out
  obtain ⟨G2, h2, s2⟩ := via _ _ _ t1
  exact ⟨⟨G2, _, x1, x', q1, q', j1 + j, (a.then_nil ka).trans s2, b.trans (went_read s j1), by omega, h2, v1, hv1⟩, (Blk.new w t cs).keep s2.keep (fun hg => Nat.lt_irrefl _ (tw.lt _ hg))⟩
theorem TwoK.last2_new (h : TwoK X rem1 [] w) (cs : Array Value) (t : TypeId) :
    Calls Tryz.prog 102 #[.pointer (some ⟨X.b2, 0, none⟩)] (w.alloc (.cells cs t)) fun e w' => e = .returned (.tuple #[zero4, .bool false, .int .i64 0]) ∧ TwoK X rem1 [] w' ∧ Blk w' w.heap.size t cs := by
  obtain ⟨G, s, x1, x2, q1, q2, j, a, b, d, tw, v1, v2⟩ := h.out
  have ka : Keep Nil w (w.alloc (.cells cs t)) := (Keep.refl Nil w).alloc _
  obtain ⟨G1, hr, hsub, via⟩ := (tw.nil ka).via2
  refine (next_end hr v2 rfl).mono fun e w1 ⟨he, t1⟩ => ⟨he, ?_⟩
  obtain ⟨G2, h2, s2⟩ := via _ _ _ t1
  exact ⟨⟨G2, s, x1, x2, q1, q2, j, (a.then_nil ka).trans s2, b, d, h2, v1, v2⟩, (Blk.new w t cs).keep s2.keep (fun hg => Nat.lt_irrefl _ (tw.lt _ hg))⟩
end

theorem neq_rec3 (a b c d x y z u : Int) (w : World) : (binOp .neq 111 (.agg #[.int .u64 a, .int .u64 b, .int .u64 c, .int .u64 d]) (.agg #[.int .u64 x, .int .u64 y, .int .u64 z, .int .u64 u])).run Tryz.prog w = .ok (.bool (!(decide (a = x) && decide (b = y) && decide (c = z) && decide (d = u)))) w := by
  rw [run_neq_struct]
  have e : (Op.equalIn 10000 111 (.agg #[.int .u64 a, .int .u64 b, .int .u64 c, .int .u64 d]) (.agg #[.int .u64 x, .int .u64 y, .int .u64 z, .int .u64 u])).run Tryz.prog w = .ok (decide (a = x) && decide (b = y) && decide (c = z) && decide (d = u)) w := by
    have u3 := Tryz.underlying43
    have a3 := Tryz.isAgg43
    have z3 := Tryz.sizeOf43
    rw [show (10000 : Nat) = 9999 + 1 from rfl, Op.equalIn]
    simp only [Sem.run_bind, run_underlying Tryz.underlying111, Result.andThen_ok]
    simp only [Std.Legacy.Range.forIn_eq_forIn_range', Std.Legacy.Range.size, Nat.sub_zero, Nat.add_sub_cancel, Nat.div_one, List.range'_succ, List.range'_zero, List.forIn_cons, List.forIn_nil]
    by_cases h1 : a = x
    · by_cases h2 : b = y
      · by_cases h3 : c = z
        · by_cases h4 : d = u
          · go_simp
          · go_simp
        · go_simp
      · go_simp
    · go_simp
  rw [e]
  rfl
theorem AkP.begins2 {c : Cx} {w : World} {G : Nat → Prop} {s : RSt} {fs : List (ByteArray × AFile)} {n1 n2 : ByteArray} {d e : Dg} (P : AkP c fs n1 d s) (P2 : AkP c fs n2 e s) (h : RmAt c w G s) : Calls Tryz.prog 91 #[.pointer (some ⟨c.k, 0, none⟩), .slice (some ⟨w.heap.size, 0, none⟩) 2 2] (w.alloc (.cells #[.string n1, .string n2] 9)) fun x w' => x = .returned (.int .i64 0) ∧ RmTo c G s w w' := by
  have ka : Keep Nil w (w.alloc (.cells #[.string n1, .string n2] 9)) := (Keep.refl Nil w).alloc _
  have hb := Blk.new w 9 #[.string n1, .string n2]
  exact (begins_ok w.heap.size 2 (h.nil ka) P.calm P.frees P.K9 (ready2 w.heap.size (h.nil ka) P.calm P.tape P2.tape (hb.at_ 0) (hb.at_ 1))).mono fun x w1 ⟨he, t⟩ => ⟨he, t.from_nil ka⟩
/-- What Equal leaves. -/
structure EqPost (c : Cx) (G : Nat → Prop) (J : Nat) (d e : Dg) (s : RSt) (w : World) (x : Ending) (w' : World) : Prop where mk ::
  out : ∃ b n, x = .returned (.tuple #[.bool b, .int .i64 n]) ∧ (¬ d.v = e.v → b = false ∧ n = 4) ∧ (d.v = e.v → n = 0 ∧ (b = true ↔ d = e)) ∧ WentTo c G J 0 s w w'
theorem WentTo.two {c : Cx} {w w2 w3 : World} {G G2 : Nat → Prop} {s s2 : RSt} {j J : Nat} (s1 : Stp w G w2 G2) (hw : Went j 0 s s2) (t : WentTo c G2 J 0 s2 w2 w3) : WentTo c G (j + J) 0 s w w3 := by
  obtain ⟨j2, s3, hj, hw2, G3, h3, st3⟩ := t
  exact ⟨_, s3, (show j2 + j ≤ j + J by omega), (hw.trans hw2).of_eq rfl (by omega), G3, h3, s1.trans st3⟩
set_option maxRecDepth 100000 in
set_option maxHeartbeats 16000000 in
theorem equal_rm {c : Cx} {w : World} {G : Nat → Prop} {s : RSt} {fs : List (ByteArray × AFile)} {n1 n2 : ByteArray} {d e : Dg} (P : AkP c fs n1 d s) (P2 : AkP c fs n2 e s) (h : RmAt c w G s) :
    Calls Tryz.prog 41 #[.pointer (some ⟨c.k, 0, none⟩), .string n1, .string n2] w (EqPost c G (nblk c.K (recsD d).length + nblk c.K (recsD e).length + 2) d e s w) := by
  have HBG := Hid.intro_ (P.begins2 P2 h)
  have HP := Hid.intro_ P
  have HP2 := Hid.intro_ P2
  have HLK := Hid.intro_ (fun W G' (h' : RmAt c W G' s) => P.look h')
  have HLK2 := Hid.intro_ (fun (s3 : RSt) (j : Nat) (hw : Went j 0 s s3) W G' (h' : RmAt c W G' s3) => (P2.step hw).look h')
  obtain ⟨v, hv⟩ : ∃ v, v = d.v := ⟨_, rfl⟩
  obtain ⟨r, hr⟩ : ∃ r, r = d.r := ⟨_, rfl⟩
  obtain ⟨m, hm⟩ : ∃ m, m = d.m := ⟨_, rfl⟩
  obtain ⟨v2, hv2⟩ : ∃ v2, v2 = e.v := ⟨_, rfl⟩
  obtain ⟨r2, hr2⟩ : ∃ r2, r2 = e.r := ⟨_, rfl⟩
  obtain ⟨m2, hm2⟩ : ∃ m2, m2 = e.m := ⟨_, rfl⟩
  rw [← hv, ← hr, ← hm] at HLK
  rw [← hv2, ← hr2, ← hm2] at HLK2
  have HV := Hid.intro_ (And.intro hv (And.intro hr hm))
  have HV2 := Hid.intro_ (And.intro hv2 (And.intro hr2 hm2))
  have hneq := neq_info3 (v : Int) r m v2 r2 m2
  clear h P P2 hv hr hm hv2 hr2 hm2
  go_enter_defers Tryz.func41, Tryz.ntmps41
  go_wp2_with fail
  refine HBG.out.mono ?_
  rintro x w2 ⟨rfl, G2, h2, s2⟩
  have HL2 := Hid.intro_ (HLK.out w2 G2 h2)
  have S2 := Hid.intro_ s2
  clear h2 s2
  go_wp2_with fail
  refine HL2.out.mono ?_
  rintro x w3 ⟨rfl, j, s3, hj, hw, G3, h3, s3'⟩
  obtain ⟨W, hW⟩ : ∃ W, W = w3.alloc (.cells #[.int .i64 v, .int .u64 r, .int .i64 m] 72) := ⟨_, rfl⟩
  have kW : Keep Nil w3 W := by rw [hW]; exact (Keep.refl Nil w3).alloc _
  have bW : Blk W w3.heap.size 72 #[.int .i64 v, .int .u64 r, .int .i64 m] := by rw [hW]; exact Blk.new w3 _ _
  have HL3 := Hid.intro_ (HLK2.out s3 j hw W G3 (h3.nil kW))
  have hoff := Hid.intro_ (show Off c.E G3 w3.heap.size from Off.new h3.env h3.lt (Nat.le_refl _))
  have S3 := Hid.intro_ ((S2.out.trans s3').then_nil kW)
  have HW := Hid.intro_ hw
  have BW := Hid.intro_ bW
  clear h3 hw s3' kW bW
  go_upto_region 7 with (fail)
  rw [← hW]
  clear hW
  go_wp2_with fail
  refine HL3.out.mono ?_
  rintro x w4 ⟨rfl, j4, s4, hj4, hw4, G4, h4, s4'⟩
  have b4 := BW.out.keep s4'.keep hoff.out.1
  obtain ⟨V, hV⟩ : ∃ V, V = w4.alloc (.cells #[.int .i64 v2, .int .u64 r2, .int .i64 m2] 72) := ⟨_, rfl⟩
  have kV : Keep Nil w4 V := by rw [hV]; exact (Keep.refl Nil w4).alloc _
  have a4 := b4.keep kV (fun h => h)
  have bV : Blk V w4.heap.size 72 #[.int .i64 v2, .int .u64 r2, .int .i64 m2] := by rw [hV]; exact Blk.new w4 _ _
  have x0 : V.cell? ⟨w3.heap.size, 0, none⟩ = some (.int .i64 v) := a4.at_ 0
  have x1 : V.cell? ⟨w3.heap.size, 1, none⟩ = some (.int .u64 r) := a4.at_ 1
  have x2 : V.cell? ⟨w3.heap.size, 2, none⟩ = some (.int .i64 m) := a4.at_ 2
  have y0 : V.cell? ⟨w4.heap.size, 0, none⟩ = some (.int .i64 v2) := bV.at_ 0
  have y1 : V.cell? ⟨w4.heap.size, 1, none⟩ = some (.int .u64 r2) := bV.at_ 1
  have y2 : V.cell? ⟨w4.heap.size, 2, none⟩ = some (.int .i64 m2) := bV.at_ 2
  have HW4 := Hid.intro_ ((HW.out.trans hw4).of_eq rfl (show (0 : Int) + 0 = 0 by omega))
  have S4 := Hid.intro_ ((S3.out.trans s4').then_nil kV)
  have H4 := Hid.intro_ (h4.nil kV)
  have HJ := Hid.intro_ (show j4 + j ≤ 2 by omega)
  clear b4 kV a4 bV hw4 h4 s4'
  go_upto_region 10 with (fail)
  rw [← hV]
  clear hV
  by_cases hvv : v = v2
  · by_cases hq : r = r2 ∧ m = m2
    · obtain ⟨hq1, hq2⟩ := hq
      have hb : (!(decide ((v : Int) = v2) && decide ((r : Int) = r2) && decide ((m : Int) = m2))) = false := by rw [hvv, hq1, hq2]; simp
      rw [hb] at hneq
      have qv : ((v : Int) != (v2 : Int)) = false := by rw [hvv]; simp
      have HVE := Hid.intro_ (show d.v = e.v by rw [← HV.out.1, ← HV2.out.1]; exact hvv)
      have P4 := HP.out.step HW4.out
      have P42 := HP2.out.step HW4.out
      obtain ⟨N, hN⟩ : ∃ N, N = (recsD d).length := ⟨_, rfl⟩
      have hN2 : (recsD e).length = N := by
        rw [hN, recsD_len, recsD_len, P4.ok.rows.len, P42.ok.rows.len]
        have e1 := HV.out.2.2
        have e2 := HV2.out.2.2
        omega
      have HN := Hid.intro_ (And.intro hN hN2)
      have HRD := Hid.intro_ (read_tape H4.out P4.tape P4.calm (by decide) P4.opn (by rw [P4.hand, P4.parts]; have := P4.lim; omega))
      have HP4 := Hid.intro_ P4
      have HP42 := Hid.intro_ P42
      have HEQ : Hid (recsD d = recsD e ↔ d = e) := Hid.intro_ ⟨fun h => recsD_inj P4.ok.rows P42.ok.rows h, fun h => by rw [h]⟩
      clear hb hvv hq1 hq2 P4 P42 hN hN2
      go_wp2_with fail
      refine HRD.out.mono ?_
      rintro x w5 ⟨b1, rfl, hb1, ho⟩
      obtain ⟨j5, q5, x5, s5, g1, g2, g3, g4, G5, h5, s5'⟩ := ho.out
      obtain ⟨G0, h0, hsub0, hsec⟩ := h5.second
      have HRD2 := Hid.intro_ (read_tape h0 HP42.out.tape (g3.calm HP42.out.calm) (by decide) (by rw [g3.closed]; exact HP42.out.opn) (by rw [g3.limit, g3.hand, g3.parts, HP42.out.hand, HP42.out.parts]; have := HP42.out.lim; omega))
      have HSEC := Hid.intro_ hsec
      have G3' := Hid.intro_ g3
      have G4' := Hid.intro_ g4
      have S5 := Hid.intro_ s5'
      have HQ5 := Hid.intro_ (And.intro g1 g2)
      clear ho h5 s5' g3 g4 h0 hsub0 hsec g1 g2
      go_wp2_with fail
      refine HRD2.out.mono ?_
      rintro x w6 ⟨b2, rfl, hb2, ho⟩
      obtain ⟨j6, q6, x6, s6, g1, g2, g3, g4, hto⟩ := ho.out
      obtain ⟨G6, h6, s6'⟩ := HSEC.out _ _ _ _ hto
      obtain ⟨X, hX⟩ : ∃ X : TX, X = { c := c, n1 := n1, n2 := n2, L1 := recsD d, L2 := recsD e, b1 := b1, b2 := b2, G0 := G6, s0 := s6, Y := w6, Q := q5 + q6 } := ⟨_, rfl⟩
      have HST : Hid (TwoK X (recsD d) (recsD e) w6) := Hid.intro_ (by
        rw [hX]
        exact ⟨⟨G6, s6, x5, x6, q5, q6, 0, Stp.refl _ _, Went.refl _, Nat.le_refl _, h6, G4'.out, g4⟩⟩)
      have HTO : Hid (TOk X fs) := Hid.intro_ (by
        rw [hX]
        exact ⟨HP4.out.tape, HP42.out.tape, (g3.calm (G3'.out.calm HP4.out.calm))⟩)
      have HX := Hid.intro_ (show X.b1 = b1 ∧ X.b2 = b2 by rw [hX]; exact ⟨rfl, rfl⟩)
      have HCL := Hid.intro_ (show X.s0.S.closed = false ∧ X.s0.S.hand = (X.c.K : Int) + X.c.K by
        rw [hX]
        refine ⟨?_, ?_⟩
        · show s6.S.closed = false
          rw [g3.closed, G3'.out.closed]; exact HP4.out.opn
        · show s6.S.hand = (c.K : Int) + c.K
          rw [g3.hand, G3'.out.hand, HP4.out.hand]; omega)
      have HFIN : Hid (∀ w9, NoK X w9 → WentTo c G (nblk c.K (recsD d).length + nblk c.K (recsD e).length + 2) 0 s w w9) := Hid.intro_ (fun w9 hno => by
        rw [hX] at hno
        obtain ⟨G9, s9, j9, t9, hw9, hj9, h9⟩ := hno.out
        have hj9 : j9 ≤ q5 + q6 := hj9
        refine ⟨_, s9, (show j9 + (j6 + (j5 + (j4 + j))) ≤ _ by have := HQ5.out; have := HJ.out; omega), (((HW4.out.trans G3'.out).trans g3).trans hw9).of_eq rfl ?_, G9, h9, ((S4.out.trans S5.out).trans s6').trans t9⟩
        show (0 : Int) + c.K + c.K + (-(c.K : Int) + -(c.K : Int)) = 0
        omega)
      clear ho hto h6 s6' g1 g2 g3 g4 hX
      have HB1 : Hid (∀ (r : R4) rest rem2 W, TwoK X (r :: rest) rem2 W → Calls Tryz.prog 102 #[.pointer (some ⟨b1, 0, none⟩)] W fun e w' => e = .returned (.tuple #[.agg #[.int .u64 r.a, .int .u64 r.b, .int .u64 r.c, .int .u64 r.d], .bool true, .int .i64 0]) ∧ TwoK X rest rem2 w') := Hid.intro_ (fun r rest rem2 W h => by
        have := TwoK.next1 HTO.out h
        rw [HX.out.1] at this
        exact this)
      have HB2 : Hid (∀ (r : R4) rest rem1 W cs t, TwoK X rem1 (r :: rest) W → Calls Tryz.prog 102 #[.pointer (some ⟨b2, 0, none⟩)] (W.alloc (.cells cs t)) fun e w' => e = .returned (.tuple #[.agg #[.int .u64 r.a, .int .u64 r.b, .int .u64 r.c, .int .u64 r.d], .bool true, .int .i64 0]) ∧ TwoK X rem1 rest w' ∧ Blk w' W.heap.size t cs) := Hid.intro_ (fun r rest rem1 W cs t h => by
        have := TwoK.next2_new HTO.out h cs t
        rw [HX.out.2] at this
        exact this)
      have HE1 : Hid (∀ rem2 W, TwoK X [] rem2 W → Calls Tryz.prog 102 #[.pointer (some ⟨b1, 0, none⟩)] W fun e w' => e = .returned (.tuple #[.agg #[.int .u64 0, .int .u64 0, .int .u64 0, .int .u64 0], .bool false, .int .i64 0]) ∧ TwoK X [] rem2 w') := Hid.intro_ (fun rem2 W h => by
        have := TwoK.last1 h
        rw [HX.out.1] at this
        exact this)
      have HE2 : Hid (∀ rem1 W cs t, TwoK X rem1 [] W → Calls Tryz.prog 102 #[.pointer (some ⟨b2, 0, none⟩)] (W.alloc (.cells cs t)) fun e w' => e = .returned (.tuple #[.agg #[.int .u64 0, .int .u64 0, .int .u64 0, .int .u64 0], .bool false, .int .i64 0]) ∧ TwoK X rem1 [] w' ∧ Blk w' W.heap.size t cs) := Hid.intro_ (fun rem1 W cs t h => by
        have := TwoK.last2_new h cs t
        rw [HX.out.2] at this
        exact this)
      have HCC : Hid (∀ rem1 rem2 W (P : Ending → World → Prop), TwoK X rem1 rem2 W → (∀ w9, NoK X w9 → P (.returned (.int .i64 0)) w9) → CallsD Tryz.prog 93 #[.pointer (some ⟨b2, 0, none⟩)] .returning W fun e u' w' => u' = .returning ∧ e = .returned (.int .i64 0) ∧ OneK X w') := Hid.intro_ (fun rem1 rem2 W P h _ => by
        have := TwoK.close2 .returning h HCL.out.1 (by rw [HCL.out.2]; omega)
        rw [HX.out.2] at this
        exact this)
      have HC1 : Hid (∀ W, OneK X W → CallsD Tryz.prog 93 #[.pointer (some ⟨b1, 0, none⟩)] .returning W fun e u' w' => u' = .returning ∧ e = .returned (.int .i64 0) ∧ NoK X w') := Hid.intro_ (fun W h => by
        have := OneK.close1 .returning h HCL.out.1 (by rw [HCL.out.2]; omega)
        rw [HX.out.1] at this
        exact this)
      go_wp2_with fail
      go_loopg [] (N + 1) (fun gk wr => ∃ (k : Nat), gk = N - k + 1 ∧ k ≤ N ∧ Hid (TwoK X ((recsD d).drop k) ((recsD e).drop k) wr) ∧ Hid (∀ j, j < k → (recsD d)[j]? = (recsD e)[j]?))
      case atStart => exact ⟨0, by omega, Nat.zero_le _, HST, Hid.intro_ (fun j hj => by omega)⟩
      case round =>
        obtain ⟨k, hgk, hkm, HT, HPR⟩ := hrel
        have HGK := Hid.intro_ hgk
        clear hgk
        by_cases hlt : k < N
        · obtain ⟨ra, hra⟩ : ∃ ra, (recsD d)[k]? = some ra := ⟨_, List.getElem?_eq_getElem (by have := HN.out.1; omega)⟩
          obtain ⟨rb, hrb⟩ : ∃ rb, (recsD e)[k]? = some rb := ⟨_, List.getElem?_eq_getElem (by have := HN.out.2; omega)⟩
          have HT1 := Hid.intro_ (show TwoK X (ra :: (recsD d).drop (k + 1)) (rb :: (recsD e).drop (k + 1)) wr by rw [← drop_at hra, ← drop_at hrb]; exact HT.out)
          have HN1 := Hid.intro_ (HB1.out _ _ _ wr HT1.out)
          have HLT := Hid.intro_ hlt
          have hnq := neq_rec3 (ra.a : Int) ra.b ra.c ra.d rb.a rb.b rb.c rb.d
          by_cases hab : ra = rb
          · have hb : (!(decide ((ra.a : Int) = rb.a) && decide ((ra.b : Int) = rb.b) && decide ((ra.c : Int) = rb.c) && decide ((ra.d : Int) = rb.d))) = false := by rw [hab]; simp
            rw [hb] at hnq
            have HPN := Hid.intro_ (show ∀ j, j < k + 1 → (recsD d)[j]? = (recsD e)[j]? from fun j hj => by
              rcases Nat.lt_or_ge j k with h1 | h1
              · exact HPR.out j h1
              · have : j = k := by omega
                rw [this, hra, hrb, hab])
            clear hb hra hrb hab hlt hneq
            go_wp2_with (first
              | (go_at_call 102; with_reducible refine HN1.out.mono ?_; rintro x w7 ⟨rfl, ht7⟩
                 have HN2 := Hid.intro_ (HB2.out _ _ _ w7 #[.int .u64 ra.a, .int .u64 ra.b, .int .u64 ra.c, .int .u64 ra.d] 111 ht7)
                 clear ht7)
              | (go_at_call 102; with_reducible refine HN2.out.mono ?_; rintro x w8 ⟨rfl, ht8, hb8⟩
                 have z0 : w8.cell? ⟨w7.heap.size, 0, none⟩ = some (.int .u64 ra.a) := hb8.at_ 0
                 have z1 : w8.cell? ⟨w7.heap.size, 1, none⟩ = some (.int .u64 ra.b) := hb8.at_ 1
                 have z2 : w8.cell? ⟨w7.heap.size, 2, none⟩ = some (.int .u64 ra.c) := hb8.at_ 2
                 have z3 : w8.cell? ⟨w7.heap.size, 3, none⟩ = some (.int .u64 ra.d) := hb8.at_ 3
                 have hlt8 := hb8.lt
                 have HT8 := Hid.intro_ ht8
                 clear ht8 hb8))
            go_roundg (N - (k + 1) + 1)
            case measure => have := HGK.out; have := HLT.out; omega
            case rel => exact ⟨k + 1, rfl, HLT.out, Hid.intro_ (HT8.out.nil ((Keep.refl Nil w8).alloc _)), HPN⟩
          · have hb : (!(decide ((ra.a : Int) = rb.a) && decide ((ra.b : Int) = rb.b) && decide ((ra.c : Int) = rb.c) && decide ((ra.d : Int) = rb.d))) = true := by
              have hne : ¬ ((ra.a : Int) = rb.a ∧ (ra.b : Int) = rb.b ∧ (ra.c : Int) = rb.c ∧ (ra.d : Int) = rb.d) := fun h => hab (by
                obtain ⟨e1, e2, e3, e4⟩ := h
                cases ra; cases rb
                simp only at e1 e2 e3 e4
                have e1 := Int.ofNat.inj e1
                have e2 := Int.ofNat.inj e2
                have e3 := Int.ofNat.inj e3
                have e4 := Int.ofNat.inj e4
                subst e1 e2 e3 e4
                rfl)
              by_cases h1 : (ra.a : Int) = rb.a
              · by_cases h2 : (ra.b : Int) = rb.b
                · by_cases h3 : (ra.c : Int) = rb.c
                  · have h4 : ¬ (ra.d : Int) = rb.d := fun h => hne ⟨h1, h2, h3, h⟩
                    simp [h4]
                  · simp [h3]
                · simp [h2]
              · simp [h1]
            rw [hb] at hnq
            have HNE := Hid.intro_ (show ¬ d = e from fun h => by
              rw [h, hrb] at hra
              injection hra with hra
              exact hab hra.symm)
            clear hb hra hrb hab hlt hneq
            go_wp2_with (first
              | (go_at_call 102; with_reducible refine HN1.out.mono ?_; rintro x w7 ⟨rfl, ht7⟩
                 have HN2 := Hid.intro_ (HB2.out _ _ _ w7 #[.int .u64 ra.a, .int .u64 ra.b, .int .u64 ra.c, .int .u64 ra.d] 111 ht7)
                 clear ht7)
              | (go_at_call 102; with_reducible refine HN2.out.mono ?_; rintro x w8 ⟨rfl, ht8, hb8⟩
                 have z0 : w8.cell? ⟨w7.heap.size, 0, none⟩ = some (.int .u64 ra.a) := hb8.at_ 0
                 have z1 : w8.cell? ⟨w7.heap.size, 1, none⟩ = some (.int .u64 ra.b) := hb8.at_ 1
                 have z2 : w8.cell? ⟨w7.heap.size, 2, none⟩ = some (.int .u64 ra.c) := hb8.at_ 2
                 have z3 : w8.cell? ⟨w7.heap.size, 3, none⟩ = some (.int .u64 ra.d) := hb8.at_ 3
                 have hlt8 := hb8.lt
                 have HT8 := Hid.intro_ ht8
                 clear ht8 hb8))
            refine leaves_cons (f := 93) (args := #[.pointer (some ⟨b2, 0, none⟩)]) (by simp) (by simp [go_sem]) ?_
            refine (HCC.out _ _ _ (fun _ _ => True) (HT8.out.nil ((Keep.refl Nil w8).alloc _)) (fun _ _ => trivial)).mono ?_
            rintro x u' w9 ⟨rfl, rfl, h9⟩
            refine leaves_cons (u := .returning) (f := 93) (args := #[.pointer (some ⟨b1, 0, none⟩)]) (by simp) (by simp [go_sem]) ?_
            refine (HC1.out _ h9).mono ?_
            rintro x u' w10 ⟨rfl, rfl, h10⟩
            exact ⟨.tuple #[.bool false, .int .i64 0], by simp [results, Tryz.results41, go_sem], ⟨false, 0, rfl, fun h => absurd HVE.out h, fun _ => ⟨rfl, ⟨fun h => (by cases h), fun h => absurd h HNE.out⟩⟩, HFIN.out w10 h10⟩⟩
        · have hke : k = N := by omega
          have hd0 : (recsD d).drop k = [] := List.drop_eq_nil_of_le (by have := HN.out.1; omega)
          have he0 : (recsD e).drop k = [] := List.drop_eq_nil_of_le (by have := HN.out.2; omega)
          have HT1 := Hid.intro_ (show TwoK X [] [] wr by have := HT.out; rw [hd0, he0] at this; exact this)
          have HN1 := Hid.intro_ (HE1.out _ wr HT1.out)
          have HYES := Hid.intro_ (show d = e from HEQ.out.1 (list_ext HN.out.1.symm HN.out.2 (fun j hj => HPR.out j (by omega))))
          have hnq := neq_rec3 (0 : Int) 0 0 0 0 0 0 0
          have hb : (!(decide ((0 : Int) = 0) && decide ((0 : Int) = 0) && decide ((0 : Int) = 0) && decide ((0 : Int) = 0))) = false := by simp
          rw [hb] at hnq
          clear hb hke hd0 he0 hlt hneq
          go_wp2_with (first
            | (go_at_call 102; with_reducible refine HN1.out.mono ?_; rintro x w7 ⟨rfl, ht7⟩
               have HN2 := Hid.intro_ (HE2.out _ w7 #[.int .u64 0, .int .u64 0, .int .u64 0, .int .u64 0] 111 ht7)
               clear ht7)
            | (go_at_call 102; with_reducible refine HN2.out.mono ?_; rintro x w8 ⟨rfl, ht8, hb8⟩
               have z0 : w8.cell? ⟨w7.heap.size, 0, none⟩ = some (.int .u64 0) := hb8.at_ 0
               have z1 : w8.cell? ⟨w7.heap.size, 1, none⟩ = some (.int .u64 0) := hb8.at_ 1
               have z2 : w8.cell? ⟨w7.heap.size, 2, none⟩ = some (.int .u64 0) := hb8.at_ 2
               have z3 : w8.cell? ⟨w7.heap.size, 3, none⟩ = some (.int .u64 0) := hb8.at_ 3
               have hlt8 := hb8.lt
               have HT8 := Hid.intro_ ht8
               clear ht8 hb8))
          refine leaves_cons (f := 93) (args := #[.pointer (some ⟨b2, 0, none⟩)]) (by simp) (by simp [go_sem]) ?_
          refine (HCC.out _ _ _ (fun _ _ => True) (HT8.out.nil ((Keep.refl Nil w8).alloc _)) (fun _ _ => trivial)).mono ?_
          rintro x u' w9 ⟨rfl, rfl, h9⟩
          refine leaves_cons (u := .returning) (f := 93) (args := #[.pointer (some ⟨b1, 0, none⟩)]) (by simp) (by simp [go_sem]) ?_
          refine (HC1.out _ h9).mono ?_
          rintro x u' w10 ⟨rfl, rfl, h10⟩
          exact ⟨.tuple #[.bool true, .int .i64 0], by simp [results, Tryz.results41, go_sem], ⟨true, 0, rfl, fun h => absurd HVE.out h, fun _ => ⟨rfl, ⟨fun _ => HYES.out, fun _ => rfl⟩⟩, HFIN.out w10 h10⟩⟩
    · have hb : (!(decide ((v : Int) = v2) && decide ((r : Int) = r2) && decide ((m : Int) = m2))) = true := by
        by_cases h2 : r = r2
        · have h3 : ¬ (m : Int) = m2 := fun h => hq ⟨h2, by omega⟩
          simp [h3]
        · have h2' : ¬ (r : Int) = r2 := by omega
          simp [h2']
      rw [hb] at hneq
      have qv : ((v : Int) != (v2 : Int)) = false := by rw [hvv]; simp
      have HNE := Hid.intro_ (show ¬ d = e from fun h => hq (by rw [HV.out.2.1, HV.out.2.2, HV2.out.2.1, HV2.out.2.2, h]; exact ⟨rfl, rfl⟩))
      have HVE := Hid.intro_ (show d.v = e.v by rw [← HV.out.1, ← HV2.out.1]; exact hvv)
      clear hb hq hvv
      go_wp2_with fail
      simp only [bodyPostD, Leaves]
      refine ⟨.tuple #[.bool false, .int .i64 0], by simp [results, Tryz.results41, go_sem], ⟨false, 0, rfl, fun h => absurd HVE.out h, fun _ => ⟨rfl, ⟨fun h => (by cases h), fun h => absurd h HNE.out⟩⟩, ?_⟩⟩
      exact ⟨j4 + j, s4, by have := HJ.out; omega, HW4.out, G4, H4.out, S4.out⟩
  · have qv : ((v : Int) != (v2 : Int)) = true := by
      have : ¬ (v : Int) = v2 := by omega
      simpa using this
    have HVE := Hid.intro_ (show ¬ d.v = e.v by rw [← HV.out.1, ← HV2.out.1]; exact hvv)
    clear hvv
    go_wp2_with fail
    simp only [bodyPostD, Leaves]
    refine ⟨.tuple #[.bool false, .int .i64 4], by simp [results, Tryz.results41, go_sem], ⟨false, 4, rfl, fun _ => ⟨rfl, rfl⟩, fun h => absurd h HVE.out, ?_⟩⟩
    exact ⟨j4 + j, s4, by have := HJ.out; omega, HW4.out, G4, H4.out, S4.out⟩
end Go.Proofs.YtadipinnbehhhaaGreatDoor
