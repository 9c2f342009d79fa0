/- NodesAsks: a diagram that the reference calls well formed. NodesAsks: the diagram that the law takes of a tape. NodesAsks: the law's stray beside two more files. NodesAsks: the plain facts of its room: two node files beside the stray. NodesAsks: the law's desk with 64 K records. -/
import Derived.Test.YtadipinnbehhhaaGreatDoorAsksRowAV
import Derived.Test.YtadipinnbehhhaaGreatDoorAsksRowAT
import Derived.Test.YtadipinnbehhhaaGreatDoorAsksRowAP
import Derived.Test.YtadipinnbehhhaaGreatDoorAsksRowAQ
namespace Go.Proofs.YtadipinnbehhhaaGreatDoor
open Go.RowKit

/-- What Formed leaves. -/
structure FormPost (d : Dg) (w : World) (e : Ending) (w' : World) : Prop where mk ::
  out : ∃ b, e = .returned (.bool b) ∧ (b = true → ClosedD d) ∧ Keep Nil w w'
/-- Of the first k nodes is known whom they point to. -/
def Led (d : Dg) (k : Nat) : Prop := ∀ (j : Nat) (n : N3), j < k → d.P[j]? = some n → Leads d n.low ∧ Leads d n.high
theorem Led.closed {d : Dg} (h : Led d d.P.length) : ClosedD d := fun n hn => by
  obtain ⟨j, hj⟩ := List.getElem?_of_mem hn
  exact h j n (List.getElem?_eq_some_iff.1 hj).1 hj
theorem Led.next {d : Dg} {k : Nat} {n : N3} (h : Led d k) (hn : d.P[k]? = some n) (hl : Leads d n.low) (hh : Leads d n.high) : Led d (k + 1) := fun j x hj hx => by
  rcases Nat.lt_or_ge j k with h1 | h1
  · exact h j x h1 hx
  · have : j = k := by omega
    subst this
    rw [hn] at hx
    injection hx with hx
    subst hx
    exact ⟨hl, hh⟩
theorem bools_set (l : List Bool) (i : Nat) (b : Bool) : (boolsV l).set i (.bool b) = boolsV (l.set i b) := by
  unfold boolsV
  rw [List.map_set]
theorem bools_at {l : List Bool} {i : Nat} {b : Bool} (h : l[i]? = some b) : (boolsV l)[i]? = some (.bool b) := by
  unfold boolsV
  rw [List.getElem?_map, h]
  rfl
theorem sF_or {p : Nat} (h : sF p = true) : p = 9223372036854775808 ∨ p = 9223372036854775809 := by
  unfold sF at h
  simpa using h
theorem sF_not {p : Nat} (h : sF p = false) : ¬ p = 9223372036854775808 ∧ ¬ p = 9223372036854775809 := by
  unfold sF at h
  simpa using h
set_option maxRecDepth 100000 in
set_option maxHeartbeats 16000000 in
theorem formed_any (d : Dg) (A : Option Addr) (cap : Nat) (w : World) (hd : InRows d) (hr : DgAt w d A) :
    Calls Tryz.prog 88 #[dgV d A cap] w (FormPost d w) := by
  obtain ⟨v, hv⟩ : ∃ v, v = d.v := ⟨_, rfl⟩
  obtain ⟨r, hr9⟩ : ∃ r, r = d.r := ⟨_, rfl⟩
  obtain ⟨m, hm⟩ : ∃ m, m = d.m := ⟨_, rfl⟩
  obtain ⟨N, hN⟩ : ∃ N, N = d.P.length := ⟨_, rfl⟩
  obtain ⟨i1, hi1, hz0, hz1, hz2⟩ := info_parts info_bool9
  obtain ⟨W0, hW0⟩ : ∃ W0, W0 = w.alloc (.cells #[.int .i64 v, .int .u64 r, .int .i64 m, .slice A N cap] 86) := ⟨_, rfl⟩
  have HK0 := Hid.intro_ (show Keep Nil w W0 by rw [hW0]; exact (Keep.refl Nil w).alloc _)
  have hB0 : Blk W0 w.heap.size 86 #[.int .i64 v, .int .u64 r, .int .i64 m, .slice A N cap] := by rw [hW0]; exact Blk.new w _ _
  have i0 : W0.cell? ⟨w.heap.size, 0, none⟩ = some (.int .i64 v) := hB0.at_ 0
  have i1' : W0.cell? ⟨w.heap.size, 1, none⟩ = some (.int .u64 r) := hB0.at_ 1
  have i2 : W0.cell? ⟨w.heap.size, 2, none⟩ = some (.int .i64 m) := hB0.at_ 2
  have i3 : W0.cell? ⟨w.heap.size, 3, none⟩ = some (.slice A N cap) := hB0.at_ 3
  have hNl : N ≤ 1099511627776 := by have := hd.len; have := hd.lt; omega
  have hvl : v ≤ 65536 := by rw [hv]; exact hd.vars
  have hrc := recs_any d.v d.r d.m d.P A cap W0 (hr.nil HK0.out).rd hr.spot (by omega) (by have := hd.vars; omega) (by have := hd.lt; omega)
  have hof : ∀ (W : World) (A2 : Option Addr) (c2 : Nat), Rd W A2 (rcCells (recsD d)) → Calls Tryz.prog 87 #[.slice A2 (N + 1) c2] W fun e w' => ∃ A3 c3 base, e = .returned (.tuple #[.agg #[.int .i64 v, .int .u64 r, .int .i64 m, .slice A3 N c3], .bool true]) ∧ Hid (W.heap.size ≤ base ∧ w'.ownsRow base 46 3 (.slice A3 d.P.length c3) d.P.length (ndCells d.P) ∧ Keep Nil W w') := fun W A2 c2 h2 => by
    have h3 := of_any A2 c2 (recsD d) W h2 hd.oks (by rw [recsD_len]; have := hd.len; have := hd.lt; omega)
    rw [recsD_len, ← hN] at h3
    refine h3.mono fun e w' hp => ?_
    obtain ⟨A3, c3, base, he, hb, ho⟩ := hp.some_ d hd.of_
    refine ⟨A3, c3, base, ?_, Hid.intro_ ⟨hb, ho, hp.keep⟩⟩
    rw [he, hv, hr9, hm, hN]
    rfl
  have hst : ∀ (W : World) (A2 : Option Addr) (c2 : Nat), DgAt W d A2 → Calls Tryz.prog 96 #[.agg #[.int .i64 v, .int .u64 r, .int .i64 m, .slice A2 N c2]] W fun e w' => ∃ g, e = .returned (.slice (some ⟨g, 0, none⟩) v v) ∧ Hid (W.heap.size ≤ g ∧ RowV w' g 3 (ints d.starts) ∧ Keep Nil W w') := fun W A2 c2 h2 => by
    have h3 := starts_any d A2 c2 W hd h2
    unfold dgV at h3
    rw [← hv, ← hr9, ← hm, ← hN] at h3
    exact h3.mono fun e w' ⟨g, he, h1, h2, h3⟩ => ⟨g, he, Hid.intro_ ⟨h1, h2, h3⟩⟩
  have hfd : ∀ (W : World) (A2 : Option Addr) (c2 gs p : Nat), DgAt W d A2 → RowV W gs 3 (ints d.starts) → p < 18446744073709551616 → Calls Tryz.prog 97 #[.agg #[.int .i64 v, .int .u64 r, .int .i64 m, .slice A2 N c2], .slice (some ⟨gs, 0, none⟩) v v, .int .u64 p] W fun e w' => e = .returned (.int .i64 (findL d d.starts p)) ∧ Keep Nil W w' := fun W A2 c2 gs p h2 hS hp => by
    have h3 := find_any d A2 c2 gs d.starts p W hd h2 hS (starts_len d) (starts_bd40 hd) hp
    unfold dgV at h3
    rw [← hv, ← hr9, ← hm, ← hN] at h3
    exact h3
  unfold dgV
  rw [← hv, ← hr9, ← hm, ← hN]
  rw [← hv, ← hr9, ← hm, ← hN] at hrc
  have HRC := Hid.intro_ hrc
  have HOF := Hid.intro_ hof
  have HSTT := Hid.intro_ hst
  have HFD := Hid.intro_ hfd
  have HD := Hid.intro_ hd
  have HNN := Hid.intro_ hN
  have HRE := Hid.intro_ (show recsD d = d.P.map N3.rec4 ++ [⟨18446744073709551615, v, r, m⟩] by rw [hv, hr9, hm]; rfl)
  clear hv hr9 hm hN hd hr hrc hof hst hfd hB0
  go_enter Tryz.func88, Tryz.ntmps88
  go_upto_region 1 with (fail)
  rw [← hW0]
  clear hW0
  go_wp2_with fail
  refine HRC.out.mono ?_
  rintro e w1 ⟨u, rfl, hown, k1⟩
  obtain ⟨A2, c2, hu⟩ := own_form hown
  subst hu
  have HO1 := Hid.intro_ (HOF.out w1 A2 c2 (by rw [HRE.out]; exact own_rd hown))
  have K1 := Hid.intro_ k1
  clear hown k1
  go_wp2_with fail
  refine HO1.out.mono ?_
  rintro e w2 ⟨A3, c3, base, rfl, hp2⟩
  obtain ⟨V, hV⟩ : ∃ V, V = w2.alloc (.cells #[.int .i64 v, .int .u64 r, .int .i64 m, .slice A3 N c3] 86) := ⟨_, rfl⟩
  have kV : Keep Nil w2 V := by rw [hV]; exact (Keep.refl Nil w2).alloc _
  have bV : Blk V w2.heap.size 86 #[.int .i64 v, .int .u64 r, .int .i64 m, .slice A3 N c3] := by rw [hV]; exact Blk.new w2 _ _
  have HDV : Hid (DgAt V d A3) := Hid.intro_ ⟨(own_rd hp2.out.2.1).keep kV (fun _ _ _ h => h), fun a ha => (by
    rcases hp2.out.2.1.2 with ⟨e, _⟩ | ⟨g, cp, cur, e, _⟩
    · injection e with e1; rw [e1] at ha; cases ha
    · injection e with e1; rw [e1] at ha; injection ha with ha; subst ha; rfl)⟩
  have HST1 := Hid.intro_ (HSTT.out V A3 c3 HDV.out)
  have KV := Hid.intro_ (HK0.out.then_ (K1.out.then_ (hp2.out.2.2.then_ kV)))
  have BV := Hid.intro_ bV
  obtain ⟨D, hD⟩ : ∃ D, D = w2.heap.size := ⟨_, rfl⟩
  rw [← hD] at BV
  have b0 : V.cell? ⟨D, 0, none⟩ = some (.int .i64 v) := BV.out.at_ 0
  have b1 : V.cell? ⟨D, 1, none⟩ = some (.int .u64 r) := BV.out.at_ 1
  have b2 : V.cell? ⟨D, 2, none⟩ = some (.int .i64 m) := BV.out.at_ 2
  have b3 : V.cell? ⟨D, 3, none⟩ = some (.slice A3 N c3) := BV.out.at_ 3
  clear kV bV hp2
  go_upto_region 2 with (fail)
  rw [← hV, ← hD]
  clear hV hD
  go_wp2_with fail
  refine HST1.out.mono ?_
  rintro e w3 ⟨gs, rfl, hp3⟩
  have HSR := Hid.intro_ hp3.out.2.1
  have K3 := Hid.intro_ hp3.out.2.2
  have B3 := Hid.intro_ (BV.out.keep hp3.out.2.2 (fun h => h))
  have e3 : w3.cell? ⟨D, 3, none⟩ = some (.slice A3 N c3) := B3.out.at_ 3
  clear hp3
  go_wp2_with (at_make; refine wpList_make_full _ rfl _ _ 92 rfl w3.heap.size 4 i1 (.bool false) 1 Tryz.underlying92 hi1 hz0 hz1 .i64 .i64 _ _ N rfl rfl rfl rfl (by rw [hz2]; omega) (by unfold maxLen; omega) (Nat.le_refl _) ?_; intro w4 ho4 k4)
  have hrow : Hid (RowV w4 w3.heap.size 4 (boolsV (List.replicate N false))) := Hid.intro_ (by
    have e : (madeCells (Value.bool false).cells (N * 1)).toList = boolsV (List.replicate N false) := by
      rw [Nat.mul_one]
      unfold boolsV
      rw [List.map_replicate]
      exact toList_madeCells_one _ _
    rw [e] at ho4
    exact own_full ho4 (by simp [boolsV]))
  have K4 : Hid (Keep Nil w3 w4) := Hid.intro_ ((Keep.of_grown k4).mono (fun _ _ h => by cases h))
  have hDG := B3.out.lt
  have hgsl := HSR.out.lt
  obtain ⟨M, hM⟩ : ∃ M, M = w3.heap.size := ⟨_, rfl⟩
  rw [← hM] at hrow hDG hgsl ⊢
  have HM := Hid.intro_ hM
  have HB4 := Hid.intro_ (B3.out.keep K4.out (fun h => h))
  have HS4 := Hid.intro_ (HSR.out.keep K4.out (fun h => h))
  have HD4 := Hid.intro_ ((HDV.out.nil K3.out).nil K4.out)
  have hML := hrow.out.lt
  have HDM := Hid.intro_ (show ¬ D = M by omega)
  have HGM := Hid.intro_ (show ¬ gs = M by omega)
  have HAM := Hid.intro_ (show ∀ a, A3 = some a → d.P ≠ [] → ¬ a.block = M from fun a ha hne e => by
    have h1 := (HDV.out.nil K3.out).rd
    have h0 : 0 < d.P.length := List.length_pos_iff.2 hne
    obtain ⟨q, o2, he, c0, _⟩ := nd_at h1 (List.getElem?_eq_getElem h0) HDV.out.spot
    rw [he] at ha
    injection ha with ha
    have := cell_lt c0
    rw [← ha] at e
    simp only at e this
    rw [HM.out] at e
    omega)
  have KW := Hid.intro_ (KV.out.then_ (K3.out.then_ K4.out))
  have HMW := Hid.intro_ (show w.heap.size ≤ M by have := KV.out.size; have := K3.out.size; have := HM.out; omega)
  clear ho4 k4 b0 b1 b2 b3 e3 hM hDG hgsl
  go_wp2_with fail
  go_loopw [7] (fun i wr => ∃ (k : Nat) (l : List Bool), k ≤ N ∧ i = .int .i64 k ∧ Hid (RowV wr M 4 (boolsV l)) ∧ Hid (l.length = N) ∧ Hid (Led d k) ∧ Hid (Keep (fun z => z = M) w4 wr)) (fun i _ => N - (intOf i).toNat)
  case atStart => exact ⟨0, _, Nat.zero_le _, rfl, hrow, Hid.intro_ (by simp), Hid.intro_ (fun j n hj => by omega), Hid.intro_ (Keep.refl _ _)⟩
  case round =>
    obtain ⟨k, l, hkm, rfl, HO, HL, HLED, HK⟩ := hrel
    have bD := HB4.out.keep HK.out HDM.out
    have c3' : wr.cell? ⟨D, 3, none⟩ = some (.slice A3 N c3) := bD.at_ 3
    clear bD
    by_cases hlt : k < N
    · have hki : (k : Int) < (N : Int) := by omega
      have hk0 : (0 : Int) ≤ (k : Int) := by omega
      obtain ⟨n, hn⟩ : ∃ n, d.P[k]? = some n := ⟨_, List.getElem?_eq_getElem (by have := HNN.out; omega)⟩
      have hmem := List.mem_of_getElem? hn
      obtain ⟨_, ho1, ho2⟩ := HD.out.okn n hmem
      have HNK := Hid.intro_ hn
      have hne : d.P ≠ [] := fun e => by rw [e] at hmem; cases hmem
      have hrd0 : ∀ W, Keep (fun z => z = M) w4 W → DgAt W d A3 := fun W kk => ⟨HD4.out.rd.keep kk (fun a ha _ e => HAM.out a ha hne e), HD4.out.spot⟩
      have HRD := Hid.intro_ hrd0
      obtain ⟨g, o, hAe, _⟩ := nd_at HD4.out.rd hn HD4.out.spot
      have HAE := Hid.intro_ hAe
      have HY : Hid (∀ W, Keep (fun z => z = M) w4 W → W.cell? ⟨g, o + k * 3 + 1, none⟩ = some (.int .u64 n.low) ∧ W.cell? ⟨g, o + k * 3 + 2, none⟩ = some (.int .u64 n.high)) := Hid.intro_ (fun W kk => by
        obtain ⟨g', o', he, _, q1, q2⟩ := nd_at (HRD.out W kk).rd HNK.out HD4.out.spot
        rw [HAE.out] at he
        injection he with he
        injection he with h1 h2
        subst h1 h2
        exact ⟨q1, q2⟩)
      obtain ⟨pl, hpl⟩ : ∃ pl, pl = n.low := ⟨_, rfl⟩
      obtain ⟨ph, hph⟩ : ∃ ph, ph = n.high := ⟨_, rfl⟩
      rw [← hpl] at HY ho1
      rw [← hph] at HY ho2
      have HPL := Hid.intro_ hpl
      have HPH := Hid.intro_ hph
      have HO1' := Hid.intro_ ho1
      have HO2' := Hid.intro_ ho2
      have HLT := Hid.intro_ hlt
      clear hn hmem hne hrd0 hpl hph hlt ho1 ho2
      rw [hAe] at c3' ⊢
      clear hAe
      go_wp2_with fail
      go_loopw [8] (fun i wz => ∃ (q : Nat) (lz : List Bool), q ≤ 2 ∧ i = .int .i64 q ∧ Hid (RowV wz M 4 (boolsV lz)) ∧ Hid (lz.length = N) ∧ Hid ((0 < q → Leads d pl) ∧ (1 < q → Leads d ph)) ∧ Hid (Keep (fun z => z = M) w4 wz)) (fun i _ => 2 - (intOf i).toNat)
      case atStart => exact ⟨0, l, by omega, rfl, HO, HL, Hid.intro_ ⟨fun h => by omega, fun h => by omega⟩, HK⟩
      case round =>
        obtain ⟨q, lz, hq2, rfl, HOz, HLz, HLD, HKz⟩ := hrel
        have bD := HB4.out.keep HKz.out HDM.out
        have c3z : wr.cell? ⟨D, 3, none⟩ = some (.slice (some ⟨g, o, none⟩) N c3) := by rw [← HAE.out]; exact bD.at_ 3
        have c0z : wr.cell? ⟨D, 0, none⟩ = some (.int .i64 v) := bD.at_ 0
        have c1z : wr.cell? ⟨D, 1, none⟩ = some (.int .u64 r) := bD.at_ 1
        have c2z : wr.cell? ⟨D, 2, none⟩ = some (.int .i64 m) := bD.at_ 2
        obtain ⟨y1, y2⟩ := HY.out wr HKz.out
        have HBD := Hid.intro_ bD
        have hrd1 : DgAt wr d (some ⟨g, o, none⟩) := by rw [← HAE.out]; exact HRD.out wr HKz.out
        have HFW := Hid.intro_ (fun (p : Nat) (hp : p < 18446744073709551616) => HFD.out wr (some ⟨g, o, none⟩) c3 gs p hrd1 (HS4.out.keep HKz.out HGM.out) hp)
        clear bD hrd1 c3'
        rcases (show q = 0 ∨ q = 1 ∨ q = 2 by omega) with rfl | rfl | rfl
        · obtain ⟨lf, hlf⟩ : ∃ lf, lf = sF pl := ⟨_, rfl⟩
          cases lf
          · obtain ⟨hp1, hp2⟩ := sF_not hlf.symm
            have q1 : ((pl : Int) == 9223372036854775808) = false := by
              have : ¬ (pl : Int) = 9223372036854775808 := by omega
              simpa using this
            have q2 : ((pl : Int) == 9223372036854775809) = false := by
              have : ¬ (pl : Int) = 9223372036854775809 := by omega
              simpa using this
            have hfw := HFW.out pl HO1'.out
            by_cases hf : 0 ≤ findL d d.starts pl
            · obtain ⟨x, nx, hfx, hnx, _, _⟩ := findL_some hf
              have hxN : x < N := by have := (List.getElem?_eq_some_iff.1 hnx).1; have := HNN.out; omega
              rw [hfx] at hfw
              have HFX := Hid.intro_ hfw
              have HLE := Hid.intro_ (show Leads d pl from .inr hf)
              have hx0 : (0 : Int) ≤ (x : Int) := by omega
              have hx1 : (x : Int) < (N : Int) := by omega
              have hx2 : ¬ (x : Int) < 0 := by omega
              obtain ⟨bo, hbo⟩ : ∃ bo, lz[x]? = some bo := ⟨_, List.getElem?_eq_getElem (by have := HLz.out; omega)⟩
              have HBO := Hid.intro_ hbo
              clear hp1 hp2 hfw hf hfx hnx hlf hbo
              go_wp2_with (go_at_call 97; refine HFX.out.mono ?_; rintro e wf ⟨rfl, kf⟩
                           have HOf := Hid.intro_ (HOz.out.keep kf (fun h => h))
                           have cx := HOf.out.at_ (bools_at HBO.out)
                           have fx := HOf.out.fr x
                           have KF := Hid.intro_ kf
                           clear kf)
              go_roundw
              case rel => exact ⟨1, lz.set x true, by omega, by go_num, Hid.intro_ (by rw [← bools_set]; exact HOf.out.set x _), Hid.intro_ (by rw [List.length_set]; exact HLz.out), Hid.intro_ ⟨fun _ => HLE.out, fun h => by omega⟩, Hid.intro_ ((HKz.out.trans KF.out (fun _ _ h => h.elim)).setCell (p := ⟨M, x, none⟩) (fun _ => rfl) _)⟩
              case measure => simp [intOf]
            · have hfn : findL d d.starts pl < 0 := by omega
              obtain ⟨fv, hfv⟩ : ∃ fv, fv = findL d d.starts pl := ⟨_, rfl⟩
              rw [← hfv] at hfw hfn
              have HFX := Hid.intro_ hfw
              clear hp1 hp2 hfw hf hlf hfv
              go_wp2_with (go_at_call 97; refine HFX.out.mono ?_; rintro e wf ⟨rfl, kf⟩)
              go_ret
              exact ⟨⟨false, rfl, (fun h => by cases h), (KW.out.trans HKz.out (fun b hb e => by have := HMW.out; have e : b = M := e; omega)).then_ kf⟩⟩
          · have HLE := Hid.intro_ (show Leads d pl from .inl hlf.symm)
            rcases sF_or hlf.symm with h1 | h1
            · have q1 : ((pl : Int) == 9223372036854775808) = true := by rw [h1]; rfl
              clear h1 hlf
              go_wp2_with fail
              go_roundw
              case rel => exact ⟨1, lz, by omega, by go_num, HOz, HLz, Hid.intro_ ⟨fun _ => HLE.out, fun h => by omega⟩, HKz⟩
              case measure => simp [intOf]
            · have q1 : ((pl : Int) == 9223372036854775808) = false := by rw [h1]; rfl
              have q2 : ((pl : Int) == 9223372036854775809) = true := by rw [h1]; rfl
              clear h1 hlf
              go_wp2_with fail
              go_roundw
              case rel => exact ⟨1, lz, by omega, by go_num, HOz, HLz, Hid.intro_ ⟨fun _ => HLE.out, fun h => by omega⟩, HKz⟩
              case measure => simp [intOf]
        · obtain ⟨lf, hlf⟩ : ∃ lf, lf = sF ph := ⟨_, rfl⟩
          cases lf
          · obtain ⟨hp1, hp2⟩ := sF_not hlf.symm
            have q1 : ((ph : Int) == 9223372036854775808) = false := by
              have : ¬ (ph : Int) = 9223372036854775808 := by omega
              simpa using this
            have q2 : ((ph : Int) == 9223372036854775809) = false := by
              have : ¬ (ph : Int) = 9223372036854775809 := by omega
              simpa using this
            have hfw := HFW.out ph HO2'.out
            by_cases hf : 0 ≤ findL d d.starts ph
            · obtain ⟨x, nx, hfx, hnx, _, _⟩ := findL_some hf
              have hxN : x < N := by have := (List.getElem?_eq_some_iff.1 hnx).1; have := HNN.out; omega
              rw [hfx] at hfw
              have HFX := Hid.intro_ hfw
              have HLE := Hid.intro_ (show Leads d ph from .inr hf)
              have hx0 : (0 : Int) ≤ (x : Int) := by omega
              have hx1 : (x : Int) < (N : Int) := by omega
              have hx2 : ¬ (x : Int) < 0 := by omega
              obtain ⟨bo, hbo⟩ : ∃ bo, lz[x]? = some bo := ⟨_, List.getElem?_eq_getElem (by have := HLz.out; omega)⟩
              have HBO := Hid.intro_ hbo
              clear hp1 hp2 hfw hf hfx hnx hlf hbo
              go_wp2_with (go_at_call 97; refine HFX.out.mono ?_; rintro e wf ⟨rfl, kf⟩
                           have HOf := Hid.intro_ (HOz.out.keep kf (fun h => h))
                           have cx := HOf.out.at_ (bools_at HBO.out)
                           have fx := HOf.out.fr x
                           have KF := Hid.intro_ kf
                           clear kf)
              go_roundw
              case rel => exact ⟨2, lz.set x true, by omega, by go_num, Hid.intro_ (by rw [← bools_set]; exact HOf.out.set x _), Hid.intro_ (by rw [List.length_set]; exact HLz.out), Hid.intro_ ⟨fun _ => HLD.out.1 (by omega), fun _ => HLE.out⟩, Hid.intro_ ((HKz.out.trans KF.out (fun _ _ h => h.elim)).setCell (p := ⟨M, x, none⟩) (fun _ => rfl) _)⟩
              case measure => simp [intOf]
            · have hfn : findL d d.starts ph < 0 := by omega
              obtain ⟨fv, hfv⟩ : ∃ fv, fv = findL d d.starts ph := ⟨_, rfl⟩
              rw [← hfv] at hfw hfn
              have HFX := Hid.intro_ hfw
              clear hp1 hp2 hfw hf hlf hfv
              go_wp2_with (go_at_call 97; refine HFX.out.mono ?_; rintro e wf ⟨rfl, kf⟩)
              go_ret
              exact ⟨⟨false, rfl, (fun h => by cases h), (KW.out.trans HKz.out (fun b hb e => by have := HMW.out; have e : b = M := e; omega)).then_ kf⟩⟩
          · have HLE := Hid.intro_ (show Leads d ph from .inl hlf.symm)
            rcases sF_or hlf.symm with h1 | h1
            · have q1 : ((ph : Int) == 9223372036854775808) = true := by rw [h1]; rfl
              clear h1 hlf
              go_wp2_with fail
              go_roundw
              case rel => exact ⟨2, lz, by omega, by go_num, HOz, HLz, Hid.intro_ ⟨fun _ => HLD.out.1 (by omega), fun _ => HLE.out⟩, HKz⟩
              case measure => simp [intOf]
            · have q1 : ((ph : Int) == 9223372036854775808) = false := by rw [h1]; rfl
              have q2 : ((ph : Int) == 9223372036854775809) = true := by rw [h1]; rfl
              clear h1 hlf
              go_wp2_with fail
              go_roundw
              case rel => exact ⟨2, lz, by omega, by go_num, HOz, HLz, Hid.intro_ ⟨fun _ => HLD.out.1 (by omega), fun _ => HLE.out⟩, HKz⟩
              case measure => simp [intOf]
        · go_wp2_with fail
          go_roundw
          case rel => exact ⟨k + 1, lz, by have := HLT.out; omega, by go_num, HOz, HLz, Hid.intro_ (HLED.out.next HNK.out (by rw [← HPL.out]; exact HLD.out.1 (by omega)) (by rw [← HPH.out]; exact HLD.out.2 (by omega))), HKz⟩
          case measure => have := HLT.out; simp [intOf]; omega
    · obtain rfl : k = N := by omega
      have HCL := Hid.intro_ (show ClosedD d from (by have := HLED.out; rw [HNN.out] at this; exact this.closed))
      have HKX := Hid.intro_ (show Keep Nil w wr from KW.out.trans HK.out (fun b hb e => by have := HMW.out; have e : b = M := e; omega))
      go_wp2_with fail
      go_loopw [11] (fun i wz => ∃ (q : Nat), q ≤ k ∧ i = .int .i64 q ∧ wz = wr) (fun i _ => k - (intOf i).toNat)
      case atStart => exact ⟨0, by omega, rfl, rfl⟩
      case round =>
        obtain ⟨q, hqm, rfl, hwz⟩ := hrel
        obtain rfl := hwz.symm
        have hw1 : wrap64 ((q : Int) + 1) = (q : Int) + 1 := wrap_low _ (by omega)
        by_cases hq : q + 1 < k
        · obtain ⟨bo, hbo⟩ : ∃ bo, l[q]? = some bo := ⟨_, List.getElem?_eq_getElem (by have := HL.out; omega)⟩
          have cx := HO.out.at_ (bools_at hbo)
          have hq1 : (q : Int) + 1 < (k : Int) := by omega
          have hq2 : (q : Int) < (k : Int) := by omega
          have hq0 : (0 : Int) ≤ (q : Int) := by omega
          clear hbo
          cases bo
          · go_wp2_with fail
            go_ret
            exact ⟨⟨false, rfl, (fun h => by cases h), HKX.out⟩⟩
          · go_wp2_with fail
            go_roundw
            case rel => exact ⟨q + 1, by omega, by go_num, trivial⟩
            case measure => simp [intOf]; omega
        · have hq1 : ¬ (q : Int) + 1 < (k : Int) := by omega
          go_wp2_with fail
          go_ret
          exact ⟨⟨true, rfl, (fun _ => HCL.out), HKX.out⟩⟩
end Go.Proofs.YtadipinnbehhhaaGreatDoor
namespace Go.Proofs.YtadipinnbehhhaaGreatDoor
open Go.RowKit

/-- What the law's formed leaves. -/
structure FmPost (L : List R4) (w : World) (e : Ending) (w' : World) : Prop where mk ::
  out : ∃ d A c base, e = .returned (dgV d A c) ∧ DgOk d ∧ (d.P.length = 0 ∨ d.P.length + 1 ≤ L.length) ∧ w.heap.size ≤ base ∧ w'.ownsRow base 46 3 (.slice A d.P.length c) d.P.length (ndCells d.P) ∧ Keep Nil w w'
theorem ofL_short {L : List R4} {d : Dg} (h : ofL L = some d) (hl : L.length ≤ 1099511627776) (ho : ∀ r ∈ L, r.Ok) : d.P.length = 0 ∨ d.P.length + 1 ≤ L.length := by
  obtain ⟨h1, h2⟩ := ofL_rows h hl ho
  right
  rw [h2, recsD_len]
  exact Nat.le_refl _
set_option maxRecDepth 100000 in
set_option maxHeartbeats 4000000 in
theorem lformed_any (A : Option Addr) (cap : Nat) (L : List R4) (w : World) (hr : Rd w A (rcCells L)) (ho : ∀ r ∈ L, r.Ok) (hl : L.length ≤ 1099511627776) :
    Calls Tryz.prog 33 #[.slice A L.length cap] w (FmPost L w) := by
  obtain ⟨W, hW⟩ : ∃ W, W = w.alloc (.cells #[.int .i64 0, .int .u64 0, .int .i64 0, .slice none 0 0] 86) := ⟨_, rfl⟩
  have kW : Keep Nil w W := by rw [hW]; exact (Keep.refl Nil w).alloc _
  have bW : Blk W w.heap.size 86 #[.int .i64 0, .int .u64 0, .int .i64 0, .slice none 0 0] := by rw [hW]; exact Blk.new w _ _
  have hof := of_any A cap L W (hr.keep kW (fun _ _ _ h => h)) ho hl
  have hleaf : ∀ (V Z : World), Blk V w.heap.size 86 #[.int .i64 0, .int .u64 0, .int .i64 0, .slice none 0 0] → Keep Nil w V → Z = (((V.setCell ⟨w.heap.size, 0, none⟩ (.int .i64 3)).setCell ⟨w.heap.size, 1, none⟩ (.int .u64 9223372036854775809)).setCell ⟨w.heap.size, 2, none⟩ (.int .i64 0)).setCell ⟨w.heap.size, 3, none⟩ (.slice none 0 0) →
      (Z.cell? ⟨w.heap.size, 0, none⟩ = some (.int .i64 3) ∧ Z.cell? ⟨w.heap.size, 1, none⟩ = some (.int .u64 9223372036854775809) ∧ Z.cell? ⟨w.heap.size, 2, none⟩ = some (.int .i64 0) ∧ Z.cell? ⟨w.heap.size, 3, none⟩ = some (.slice none 0 0)) ∧ FmPost L w (.returned (.agg #[.int .i64 3, .int .u64 9223372036854775809, .int .i64 0, .slice none 0 0])) Z := fun V Z hb k hZ => by
    obtain ⟨y0, y1, y2, y3, hk⟩ := res4 hb k _ _ _ _ Z hZ
    exact ⟨⟨y0, y1, y2, y3⟩, ⟨leafD, none, 0, w.heap.size, rfl, leaf_ok, .inl rfl, Nat.le_refl _, World.ownsRow_nil _ _ _ _, hk⟩⟩
  have HLEAF := Hid.intro_ hleaf
  have HOKS := Hid.intro_ ho
  have HLL := Hid.intro_ hl
  have BW := Hid.intro_ bW
  have KW := Hid.intro_ kW
  have hWs : w.heap.size < W.heap.size := bW.lt
  have HWS := Hid.intro_ hWs
  cases hT : ofL L with
  | none =>
    have HOF := Hid.intro_ (hof.mono fun e w' h => (And.intro (h.none_ hT) h.keep : e = .returned (.tuple #[zeroD, .bool false]) ∧ Keep Nil W w'))
    unfold zeroD at HOF
    clear hof hr ho hl kW bW hleaf hT hWs
    go_enter Tryz.func33, Tryz.ntmps33
    go_upto_region 1 with (fail)
    rw [← hW]
    clear hW
    go_wp2_with fail
    refine HOF.out.mono ?_
    rintro e w2 ⟨rfl, k2⟩
    obtain ⟨V, hV⟩ : ∃ V, V = w2.alloc (.cells #[.int .i64 0, .int .u64 0, .int .i64 0, .slice none 0 0] 86) := ⟨_, rfl⟩
    have kV : Keep Nil w2 V := by rw [hV]; exact (Keep.refl Nil w2).alloc _
    have HBV := Hid.intro_ (BW.out.keep (k2.then_ kV) (fun h => h))
    have HKV := Hid.intro_ (KW.out.then_ (k2.then_ kV))
    have z0 : V.cell? ⟨w.heap.size, 0, none⟩ = some (.int .i64 0) := HBV.out.at_ 0
    have z1 : V.cell? ⟨w.heap.size, 1, none⟩ = some (.int .u64 0) := HBV.out.at_ 1
    have z2 : V.cell? ⟨w.heap.size, 2, none⟩ = some (.int .i64 0) := HBV.out.at_ 2
    have z3 : V.cell? ⟨w.heap.size, 3, none⟩ = some (.slice none 0 0) := HBV.out.at_ 3
    have g0 := HBV.out.fr 0
    have g1 := HBV.out.fr 1
    have g2 := HBV.out.fr 2
    have g3 := HBV.out.fr 3
    clear k2 kV
    go_upto_region 2 with (fail)
    rw [← hV]
    clear hV
    go_wp2_with fail
    generalize hX : (((V.setCell ⟨w.heap.size, 0, none⟩ (.int .i64 3)).setCell ⟨w.heap.size, 1, none⟩ (.int .u64 9223372036854775809)).setCell ⟨w.heap.size, 2, none⟩ (.int .i64 0)).setCell ⟨w.heap.size, 3, none⟩ (.slice none 0 0) = Z at *
    obtain ⟨⟨y0, y1, y2, y3⟩, hp⟩ := HLEAF.out V Z HBV.out HKV.out hX.symm
    refine bodyPost_ret (v := .agg #[.int .i64 3, .int .u64 9223372036854775809, .int .i64 0, .slice none 0 0]) (by simp [results, Tryz.results33, go_sem, y0, y1, y2, y3]) rfl hp
  | some d =>
    obtain ⟨hrows, hrec⟩ := ofL_rows hT hl ho
    have hshort := ofL_short hT hl ho
    obtain ⟨v, hv⟩ : ∃ v, v = d.v := ⟨_, rfl⟩
    obtain ⟨r, hr9⟩ : ∃ r, r = d.r := ⟨_, rfl⟩
    obtain ⟨m, hm⟩ : ∃ m, m = d.m := ⟨_, rfl⟩
    obtain ⟨N, hN⟩ : ∃ N, N = d.P.length := ⟨_, rfl⟩
    have HOF : Hid (Calls Tryz.prog 87 #[.slice A L.length cap] W fun e w' => ∃ A3 c3 base, e = .returned (.tuple #[.agg #[.int .i64 v, .int .u64 r, .int .i64 m, .slice A3 N c3], .bool true]) ∧ Hid (W.heap.size ≤ base ∧ w'.ownsRow base 46 3 (.slice A3 d.P.length c3) d.P.length (ndCells d.P) ∧ Keep Nil W w')) := Hid.intro_ (hof.mono fun e w' hp => by
      obtain ⟨A3, c3, base, he, hb, ho⟩ := hp.some_ d hT
      refine ⟨A3, c3, base, ?_, Hid.intro_ ⟨hb, ho, hp.keep⟩⟩
      rw [he, hv, hr9, hm, hN]
      rfl)
    have HFM := Hid.intro_ (show ∀ (V : World) (A3 : Option Addr) (c3 : Nat), DgAt V d A3 → Calls Tryz.prog 88 #[.agg #[.int .i64 v, .int .u64 r, .int .i64 m, .slice A3 N c3]] V (FormPost d V) from fun V A3 c3 h => by
      have := formed_any d A3 c3 V hrows h
      unfold dgV at this
      rw [← hv, ← hr9, ← hm, ← hN] at this
      exact this)
    have HRW := Hid.intro_ hrows
    have HSH := Hid.intro_ hshort
    have HNN := Hid.intro_ (show ∀ (A3 : Option Addr) (c3 : Nat), (.agg #[.int .i64 v, .int .u64 r, .int .i64 m, .slice A3 N c3] : Value) = dgV d A3 c3 by intro A3 c3; rw [hv, hr9, hm, hN]; rfl)
    clear hof hr ho hl kW bW hleaf hT hWs hrows hrec hshort hv hr9 hm hN
    go_enter Tryz.func33, Tryz.ntmps33
    go_upto_region 1 with (fail)
    rw [← hW]
    clear hW
    go_wp2_with fail
    refine HOF.out.mono ?_
    rintro e w2 ⟨A3, c3, base, rfl, hp2⟩
    obtain ⟨V, hV⟩ : ∃ V, V = w2.alloc (.cells #[.int .i64 v, .int .u64 r, .int .i64 m, .slice A3 N c3] 86) := ⟨_, rfl⟩
    have kV : Keep Nil w2 V := by rw [hV]; exact (Keep.refl Nil w2).alloc _
    have bV : Blk V w2.heap.size 86 #[.int .i64 v, .int .u64 r, .int .i64 m, .slice A3 N c3] := by rw [hV]; exact Blk.new w2 _ _
    have HDV : Hid (DgAt V d A3) := Hid.intro_ ⟨(own_rd hp2.out.2.1).keep kV (fun _ _ _ h => h), fun a ha => (by
      rcases hp2.out.2.1.2 with ⟨e, _⟩ | ⟨g, cp, cur, e, _⟩
      · injection e with e1; rw [e1] at ha; cases ha
      · injection e with e1; rw [e1] at ha; injection ha with ha; subst ha; rfl)⟩
    have HOV := Hid.intro_ (own_keep hp2.out.2.1 kV (fun _ _ h => h))
    have HBS := Hid.intro_ hp2.out.1
    have HBV := Hid.intro_ (BW.out.keep (hp2.out.2.2.then_ kV) (fun h => h))
    have HKV := Hid.intro_ (KW.out.then_ (hp2.out.2.2.then_ kV))
    have HDB := Hid.intro_ bV
    have b0 : V.cell? ⟨w2.heap.size, 0, none⟩ = some (.int .i64 v) := bV.at_ 0
    have b1 : V.cell? ⟨w2.heap.size, 1, none⟩ = some (.int .u64 r) := bV.at_ 1
    have b2 : V.cell? ⟨w2.heap.size, 2, none⟩ = some (.int .i64 m) := bV.at_ 2
    have b3 : V.cell? ⟨w2.heap.size, 3, none⟩ = some (.slice A3 N c3) := bV.at_ 3
    have HFV := Hid.intro_ (HFM.out V A3 c3 HDV.out)
    clear kV bV hp2
    go_upto_region 2 with (fail)
    rw [← hV]
    clear hV
    go_wp2_with fail
    refine HFV.out.mono ?_
    rintro e w5 hpf
    obtain ⟨b, rfl, hbc, k5⟩ := hpf.out
    have HB5 := Hid.intro_ (HBV.out.keep k5 (fun h => h))
    have HK5 := Hid.intro_ (HKV.out.then_ k5)
    have HD5 := Hid.intro_ (HDB.out.keep k5 (fun h => h))
    have HO5 := Hid.intro_ (own_keep HOV.out k5 (fun _ _ h => h))
    have z0 : w5.cell? ⟨w.heap.size, 0, none⟩ = some (.int .i64 0) := HB5.out.at_ 0
    have z1 : w5.cell? ⟨w.heap.size, 1, none⟩ = some (.int .u64 0) := HB5.out.at_ 1
    have z2 : w5.cell? ⟨w.heap.size, 2, none⟩ = some (.int .i64 0) := HB5.out.at_ 2
    have z3 : w5.cell? ⟨w.heap.size, 3, none⟩ = some (.slice none 0 0) := HB5.out.at_ 3
    have g0 := HB5.out.fr 0
    have g1 := HB5.out.fr 1
    have g2 := HB5.out.fr 2
    have g3 := HB5.out.fr 3
    have d0 : w5.cell? ⟨w2.heap.size, 0, none⟩ = some (.int .i64 v) := HD5.out.at_ 0
    have d1 : w5.cell? ⟨w2.heap.size, 1, none⟩ = some (.int .u64 r) := HD5.out.at_ 1
    have d2 : w5.cell? ⟨w2.heap.size, 2, none⟩ = some (.int .i64 m) := HD5.out.at_ 2
    have d3 : w5.cell? ⟨w2.heap.size, 3, none⟩ = some (.slice A3 N c3) := HD5.out.at_ 3
    have HBC := Hid.intro_ hbc
    clear hpf hbc k5 b0 b1 b2 b3
    cases b with
    | true =>
      go_wp2_with fail
      generalize hX : (((w5.setCell ⟨w.heap.size, 0, none⟩ (.int .i64 v)).setCell ⟨w.heap.size, 1, none⟩ (.int .u64 r)).setCell ⟨w.heap.size, 2, none⟩ (.int .i64 m)).setCell ⟨w.heap.size, 3, none⟩ (.slice A3 N c3) = Z at *
      obtain ⟨y0, y1, y2, y3, hk⟩ := res4 HB5.out HK5.out _ _ _ _ Z hX.symm
      have kp := ((((Keep.refl (fun z => z = w.heap.size) w5).setCell (p := ⟨w.heap.size, 0, none⟩) (fun _ => rfl) (.int .i64 v)).setCell (p := ⟨w.heap.size, 1, none⟩) (fun _ => rfl) (.int .u64 r)).setCell (p := ⟨w.heap.size, 2, none⟩) (fun _ => rfl) (.int .i64 m)).setCell (p := ⟨w.heap.size, 3, none⟩) (fun _ => rfl) (.slice A3 N c3)
      rw [hX] at kp
      refine bodyPost_ret (v := .agg #[.int .i64 v, .int .u64 r, .int .i64 m, .slice A3 N c3]) (by simp [results, Tryz.results33, go_sem, y0, y1, y2, y3]) rfl ⟨d, A3, c3, base, by rw [HNN.out], ⟨HRW.out, HBC.out trivial⟩, HSH.out, by have := HBS.out; have := HWS.out; omega, own_keep HO5.out kp (fun g' hg e => by have := own_base HO5.out hg; have := HBS.out; have := HWS.out; have e : g' = w.heap.size := e; omega), hk⟩
    | false =>
      go_wp2_with fail
      generalize hX : (((w5.setCell ⟨w.heap.size, 0, none⟩ (.int .i64 3)).setCell ⟨w.heap.size, 1, none⟩ (.int .u64 9223372036854775809)).setCell ⟨w.heap.size, 2, none⟩ (.int .i64 0)).setCell ⟨w.heap.size, 3, none⟩ (.slice none 0 0) = Z at *
      obtain ⟨⟨y0, y1, y2, y3⟩, hp⟩ := HLEAF.out w5 Z HB5.out HK5.out hX.symm
      refine bodyPost_ret (v := .agg #[.int .i64 3, .int .u64 9223372036854775809, .int .i64 0, .slice none 0 0]) (by simp [results, Tryz.results33, go_sem, y0, y1, y2, y3]) rfl hp
end Go.Proofs.YtadipinnbehhhaaGreatDoor
namespace Go.Proofs.YtadipinnbehhhaaGreatDoor
open Go.RowKit

/-- A room's files: two more beside the stray. -/
def rgFs (F1 F2 : AFile) (block : Nat) : List (ByteArray × AFile) := (nmF, F1) :: (nmG, F2) :: strayFs block
theorem sortF_stray2 (F1 F2 : AFile) (block : Nat) : sortF [(⟨#[122]⟩, ⟨true, blocksB 1 [strayRec] block⟩), (⟨#[111, 112, 101, 110]⟩, ⟨false, []⟩), (nmF, F1), (nmG, F2)] = rgFs F1 F2 block := by
  have hb : Op.bytesLess [111, 112, 101, 110] [122] = true := by decide
  have hb2 : Op.bytesLess [102] [122] = true := by decide
  have hb3 : Op.bytesLess [102] [111, 112, 101, 110] = true := by decide
  have hb4 : Op.bytesLess [103] [122] = true := by decide
  have hb5 : Op.bytesLess [103] [111, 112, 101, 110] = true := by decide
  have hb6 : Op.bytesLess [103] [102] = false := by decide
  simp [sortF, ins, insR, insStep, strayFs, rgFs, nmF, nmG, hb, hb2, hb3, hb4, hb5, hb6]
/-- Two more, by what append leaves. -/
theorem OFl.push2 {w1 w' : World} {H : Nat → Prop} {base : Nat} {v v' r r2 : Value} {fs : List (ByteArray × AFile)} {f f2 : ByteArray × AFile} {rs : List Value} (hv : ∀ (j : Nat) (r : Value) (f : ByteArray × AFile), rs[j]? = some r → fs[j]? = some f → FsAt w1 H r f.2.blocks) (hl : rs.length = fs.length)
    (ho0 : w1.ownsRow base 55 3 v fs.length (fileCells fs rs)) (hr : FsAt w1 H r f.2.blocks) (hr2 : FsAt w1 H r2 f2.2.blocks) (ho : w'.ownsRow base 55 3 v' (fs.length + 2) (fileCells fs rs ++ [.string f.1, .bool f.2.done, r, .string f2.1, .bool f2.2.done, r2])) (k : Keep (fun b => v.ownBlock = some b) w1 w') : OFl w' base H v' (fs ++ [f, f2]) := by
  have key : ∀ {r : Value} {f : List (List Int)}, FsAt w1 H r f → FsAt w' H r f := fun {r f} h => by
    rcases ho0.2 with ⟨e, _⟩ | ⟨g, cap, cur, e, _, hh, _⟩
    · subst e
      exact h.nil (k.mono fun b _ hb => by simp [Value.ownBlock] at hb)
    · subst e
      refine h.far (g := g) (k.mono fun b _ hb => ?_) (fun cs fr hb => ?_) (fun cs fr hb => ?_)
      · have : g = b := by simpa [Value.ownBlock] using hb
        exact this.symm
      · rw [hb] at hh; injection hh with hh; injection hh with _ hh; exact absurd hh (by decide)
      · rw [hb] at hh; injection hh with hh; injection hh with _ hh; exact absurd hh (by decide)
  refine ⟨rs ++ [r, r2], by simp [hl], ?_, fun j x c hx hc => ?_⟩
  · rw [List.length_append, fileCells_app _ _ _ _ hl]
    exact ho
  · by_cases hj : j < fs.length
    · rw [List.getElem?_append_left (by omega)] at hx
      rw [List.getElem?_append_left hj] at hc
      exact key (hv j x c hx hc)
    · rw [List.getElem?_append_right (by omega)] at hx hc
      rw [hl] at hx
      have h1 := (List.getElem?_eq_some_iff.1 hc).1
      simp only [List.length_cons, List.length_nil] at h1
      rcases (show j - fs.length = 0 ∨ j - fs.length = 1 by omega) with h0 | h0
      · rw [h0] at hx hc
        simp only [List.getElem?_cons_zero, Option.some.injEq] at hx hc
        subst hx hc
        exact key hr
      · rw [h0] at hx hc
        simp only [List.getElem?_cons_succ, List.getElem?_cons_zero, Option.some.injEq] at hx hc
        subst hx hc
        exact key hr2
structure StrayP2 (B : Nat) (F1 F2 : AFile) (block : Nat) (w : World) (e : Ending) (w' : World) : Prop where mk ::
  out : ∃ A c, e = .returned (.agg #[.int .i64 block, .slice A 4 c]) ∧ StAt w' (fun b => B ≤ b) (.agg #[.int .i64 block, .slice A 4 c]) block (rgFs F1 F2 block) ∧ Keep Nil w w'
theorem stray2_state (B block : Nat) (F1 F2 : AFile) (V V3 : World) (Az : Option Addr) (cz g : Nat) (r r2 s1 : Value)
    (hown : V.ownsRow B 55 3 (.slice (some ⟨g, 0, none⟩) 2 2) 2 (fileCells [(⟨#[122]⟩, ⟨true, blocksB 1 [strayRec] block⟩), (⟨#[111, 112, 101, 110]⟩, ⟨false, []⟩)] [.slice Az (blocksB 1 [strayRec] block).length cz, .slice none 0 0]))
    (hz : FsAt V (fun b => B ≤ b) (.slice Az (blocksB 1 [strayRec] block).length cz) (blocksB 1 [strayRec] block)) (hr : FsAt V (fun b => B ≤ b) r F1.blocks) (hr2 : FsAt V (fun b => B ≤ b) r2 F2.blocks)
    (ho3 : V3.ownsRow B 55 3 s1 4 (fileCells [(⟨#[122]⟩, ⟨true, blocksB 1 [strayRec] block⟩), (⟨#[111, 112, 101, 110]⟩, ⟨false, []⟩)] [.slice Az (blocksB 1 [strayRec] block).length cz, .slice none 0 0] ++ [.string nmF, .bool F1.done, r, .string nmG, .bool F2.done, r2]))
    (k : Keep (fun b => (Value.slice (some ⟨g, 0, none⟩) 2 2).ownBlock = some b) V V3) :
    Calls Tryz.prog 56 #[.int .i64 block, s1] V3 (StateRPost V3 (fun b => B ≤ b) block (rgFs F1 F2 block)) := by
  have hp := OFl.push2 (f := (nmF, F1)) (f2 := (nmG, F2)) (H := fun b => B ≤ b) (fun j r f hr hf => ?_) rfl hown hr hr2 ho3 k
  · have := rstate_any (fun b => B ≤ b) block s1 _ V3 (hp.fl (fun g hg => own_base ho3 hg)) (by simp)
    rw [show ([(⟨#[122]⟩, ⟨true, blocksB 1 [strayRec] block⟩), (⟨#[111, 112, 101, 110]⟩, ⟨false, []⟩)] : List (ByteArray × AFile)) ++ [(nmF, F1), (nmG, F2)] = [(⟨#[122]⟩, ⟨true, blocksB 1 [strayRec] block⟩), (⟨#[111, 112, 101, 110]⟩, ⟨false, []⟩), (nmF, F1), (nmG, F2)] from rfl, sortF_stray2] at this
    exact this
  · match j with
    | 0 => injection hr with hr; injection hf with hf; subst hr hf; exact hz
    | 1 => injection hr with hr; injection hf with hf; subst hr hf; exact (OFs.nil_ V 0 _).fs (fun g hg => by cases hg)
    | j + 2 => simp at hr
set_option maxRecDepth 100000 in
set_option maxHeartbeats 1000000 in
theorem stray2_any (B block : Nat) (F1 F2 : AFile) (Af : Option Addr) (cf : Nat) (w : World) (hb : 64 ≤ block ∧ block ≤ 65536 ∧ block % 32 = 0) (hB : B ≤ w.heap.size) (hfl : FlAt w (fun b => B ≤ b) (.slice Af 2 cf) [(nmF, F1), (nmG, F2)]) :
    Calls Tryz.prog 11 #[.int .i64 block, .slice Af 2 cf] w (StrayP2 B F1 F2 block w) := by
  obtain ⟨⟨gf, of, r, r2, rfl, p0, p1, p2, p3, p4, p5, hrf, hrf2, hro, hro2⟩⟩ : Nonempty (∃ gf of r r2, Af = some ⟨gf, of, none⟩ ∧ w.cell? ⟨gf, of, none⟩ = some (.string nmF) ∧ w.cell? ⟨gf, of + 1, none⟩ = some (.bool F1.done) ∧ w.cell? ⟨gf, of + 2, none⟩ = some r ∧ w.cell? ⟨gf, of + 3, none⟩ = some (.string nmG) ∧ w.cell? ⟨gf, of + 4, none⟩ = some (.bool F2.done) ∧ w.cell? ⟨gf, of + 5, none⟩ = some r2 ∧ FsAt w (fun b => B ≤ b) r F1.blocks ∧ FsAt w (fun b => B ≤ b) r2 F2.blocks ∧ r.oneCell' = true ∧ r2.oneCell' = true) := by
    refine ⟨?_⟩
    obtain ⟨A, c, rs, e, hl, hr, hi, ht, hv⟩ := hfl.out
    injection e with e1 e2 e3
    subst e1 e3
    match rs, hl with
    | [r, r2], _ =>
      obtain ⟨⟨g, o, sp⟩, rfl, c0⟩ := hr 0 (.string nmF) rfl
      obtain rfl : sp = none := (hi _ rfl).3
      obtain ⟨_, e, c1⟩ := hr 1 (.bool F1.done) rfl; injection e with e; subst e
      obtain ⟨_, e, c2⟩ := hr 2 r rfl; injection e with e; subst e
      obtain ⟨_, e, c3⟩ := hr 3 (.string nmG) rfl; injection e with e; subst e
      obtain ⟨_, e, c4⟩ := hr 4 (.bool F2.done) rfl; injection e with e; subst e
      obtain ⟨_, e, c5⟩ := hr 5 r2 rfl; injection e with e; subst e
      rw [add_at] at c0 c1 c2 c3 c4 c5
      have hf := hv 0 r (nmF, F1) rfl rfl
      have hf2 := hv 1 r2 (nmG, F2) rfl rfl
      obtain ⟨A2, c2', vs, e2, _⟩ := hf.out
      obtain ⟨A3, c3', vs3, e3, _⟩ := hf2.out
      exact ⟨g, o, r, r2, rfl, c0, c1, c2, c3, c4, c5, hf, hf2, by rw [e2]; rfl, by rw [e3]; rfl⟩
  obtain ⟨W, hW⟩ : ∃ W, W = w.alloc (.cells #[.int .i64 0, .slice none 0 0] 28) := ⟨_, rfl⟩
  have kW : Keep Nil w W := by rw [hW]; exact (Keep.refl Nil w).alloc _
  have b0 : Blk W w.heap.size 28 #[.int .i64 0, .slice none 0 0] := by rw [hW]; exact Blk.new w _ _
  obtain ⟨i2, hi2, hz0, hz1, hz2⟩ := info_parts info_file
  have b1 := Blk.new W 111 #[.int .u64 3, .int .u64 1, .int .u64 4, .int .u64 1]
  have k1 : Keep Nil W (W.alloc (.cells #[.int .u64 3, .int .u64 1, .int .u64 4, .int .u64 1] 111)) := (Keep.refl Nil W).alloc _
  have hz : W.heap.size = w.heap.size + 1 := by rw [hW]; simp
  rw [hz] at b1
  have htp := Hid.intro_ (tape_any ⟨#[122]⟩ 1 block (some ⟨w.heap.size + 1, 0, none⟩) 1 [strayRec] (W.alloc (.cells #[.int .u64 3, .int .u64 1, .int .u64 4, .int .u64 1] 111)) (by omega) hb (by simp) (by
    intro j u hu
    refine ⟨_, rfl, ?_⟩
    rw [add_at, Nat.zero_add]
    have hj : j < 4 := by have := (List.getElem?_eq_some_iff.1 hu).1; simp [rcCells, R4.ws] at this; omega
    match j, hj with
    | 0, _ => injection hu with hu; subst hu; exact b1.at_ 0
    | 1, _ => injection hu with hu; subst hu; exact b1.at_ 1
    | 2, _ => injection hu with hu; subst hu; exact b1.at_ 2
    | 3, _ => injection hu with hu; subst hu; exact b1.at_ 3) (by intro a e; injection e with e; subst e; rfl) (by
    intro r hr
    simp at hr
    subst hr
    constructor <;> simp [strayRec]))
  have HRF := Hid.intro_ hrf
  have HRF2 := Hid.intro_ hrf2
  have HP := Hid.intro_ (And.intro p0 (And.intro p1 p2))
  have HP2 := Hid.intro_ (And.intro p3 (And.intro p4 p5))
  have HB0 := Hid.intro_ b0
  have KW := Hid.intro_ kW
  have K1 := Hid.intro_ k1
  have HBB := Hid.intro_ hB
  have HZ := Hid.intro_ hz
  clear b1 hrf hrf2 p0 p1 p2 p3 p4 p5 hfl b0 kW k1 hB
  go_enter Tryz.func11, Tryz.ntmps11
  go_wp2_with (first
    | (go_at_call 22; rw [← hW]; refine htp.out.mono ?_; rintro e w2 ⟨v, rfl, hfs, k2⟩
       obtain ⟨Av, cv, rfl⟩ : ∃ A c, v = .slice A (blocksB 1 [strayRec] block).length c := by obtain ⟨A, c, _, e, _⟩ := hfs.out; exact ⟨A, c, e⟩
       have KV : Hid (Keep Nil w ((w2.alloc (.cells #[.string ⟨#[122]⟩, .bool true, .slice Av (blocksB 1 [strayRec] block).length cv] 55)).alloc (.cells #[.string ⟨#[122]⟩, .bool true, .slice Av (blocksB 1 [strayRec] block).length cv, .string ⟨#[111, 112, 101, 110]⟩, .bool false, .slice none 0 0] 55))) := Hid.intro_ ((((KW.out.then_ K1.out).then_ k2).alloc _).alloc _)
       have B0V : Hid (Blk ((w2.alloc (.cells #[.string ⟨#[122]⟩, .bool true, .slice Av (blocksB 1 [strayRec] block).length cv] 55)).alloc (.cells #[.string ⟨#[122]⟩, .bool true, .slice Av (blocksB 1 [strayRec] block).length cv, .string ⟨#[111, 112, 101, 110]⟩, .bool false, .slice none 0 0] 55)) w.heap.size 28 #[.int .i64 0, .slice none 0 0]) := Hid.intro_ (HB0.out.keep (((K1.out.then_ k2).alloc _).alloc _) (fun h => h))
       have HSZ : Hid (w.heap.size < w2.heap.size) := Hid.intro_ (by have := (K1.out.then_ k2).size; have := HZ.out; omega)
       have HFZ : Hid (FsAt w2 (fun b => B ≤ b) (.slice Av (blocksB 1 [strayRec] block).length cv) (blocksB 1 [strayRec] block)) := Hid.intro_ (hfs.mono (fun b hb _ => by have := HBB.out; simp at hb; omega))
       have HOW := Hid.intro_ (own_two (B := B) (g := w2.heap.size + 1) (by have := HSZ.out; have := HBB.out; omega) (Blk.new_at (w2.alloc (.cells #[.string ⟨#[122]⟩, .bool true, .slice Av (blocksB 1 [strayRec] block).length cv] 55)) 55 #[.string ⟨#[122]⟩, .bool true, .slice Av (blocksB 1 [strayRec] block).length cv, .string ⟨#[111, 112, 101, 110]⟩, .bool false, .slice none 0 0] (by simp)) rfl)
       clear hfs k2)
    | (at_builtin; go_loud (
       refine wpList_append_own_at _ rfl (.tmp 13) (.tmp 14) 26 rfl B 55 i2 (.agg #[.string ⟨#[]⟩, .bool false, .slice none 0 0]) 3 48 Tryz.underlying26 hi2 hz0 hz1 hz2 rfl (by decide) (.slice (some ⟨w2.heap.size + 1, 0, none⟩) 2 2) 2 [.string ⟨#[122]⟩, .bool true, .slice Av (blocksB 1 [strayRec] block).length cv, .string ⟨#[111, 112, 101, 110]⟩, .bool false, .slice none 0 0] (by simp [Act.eval]) HOW.out ⟨gf, of, none⟩ 2 cf [.string nmF, .bool F1.done, r, .string nmG, .bool F2.done, r2] (by simp [Act.eval]) rfl (fun j u hu => by
         rw [add_at]
         have hk := KV.out
         match j, hu with
         | 0, hu => injection hu with hu; subst hu; exact cell_keep HP.out.1 hk (fun h => h)
         | 1, hu => injection hu with hu; subst hu; exact cell_keep HP.out.2.1 hk (fun h => h)
         | 2, hu => injection hu with hu; subst hu; exact cell_keep HP.out.2.2 hk (fun h => h)
         | 3, hu => injection hu with hu; subst hu; exact cell_keep HP2.out.1 hk (fun h => h)
         | 4, hu => injection hu with hu; subst hu; exact cell_keep HP2.out.2.1 hk (fun h => h)
         | 5, hu => injection hu with hu; subst hu; exact cell_keep HP2.out.2.2 hk (fun h => h)) (fun x hx => by simp only [List.mem_cons, List.not_mem_nil, or_false] at hx; rcases hx with rfl | rfl | rfl | rfl | rfl | rfl <;> first | rfl | exact hro | exact hro2) (by unfold maxLen; omega) (by omega) (by have := HSZ.out; have := HBB.out; simp; omega) ?_
       intro s1 w3 ho3 k3 _ hs1
       have HST := Hid.intro_ (stray2_state B block F1 F2 _ w3 Av cv (w2.heap.size + 1) r r2 s1 HOW.out (HFZ.out.nil (((Keep.refl Nil w2).alloc _).alloc _)) (HRF.out.nil KV.out) (HRF2.out.nil KV.out) ho3 (Keep.of_grown k3))
       have KV3 : Hid (Keep Nil w w3) := Hid.intro_ (KV.out.trans (Keep.of_grown k3) (fun b hb e => by injection e with e; have e : w2.heap.size + 1 = b := e; have := HSZ.out; omega))
       have B03 : Hid (Blk w3 w.heap.size 28 #[.int .i64 0, .slice none 0 0]) := Hid.intro_ (B0V.out.keep (Keep.of_grown k3) (fun e => by injection e with e; have e : w2.heap.size + 1 = w.heap.size := e; have := HSZ.out; omega))
       clear ho3 k3 hs1))
    | (go_at_call 56; refine HST.out.mono ?_; rintro e w4 ⟨v4, rfl, hs4, k4⟩
       obtain ⟨u, rfl, hf4⟩ := hs4.out
       obtain ⟨A4, c4, rfl⟩ : ∃ A c, u = .slice A 4 c := by obtain ⟨A, c, e⟩ := hf4.form; exact ⟨A, c, e⟩
       have kk := Hid.intro_ (KV3.out.then_ k4)
       have b4 := B03.out.keep k4 (fun h => h)
       have z0 : w4.cell? ⟨w.heap.size, 0, none⟩ = some (.int .i64 0) := b4.at_ 0
       have z1 : w4.cell? ⟨w.heap.size, 1, none⟩ = some (.slice none 0 0) := b4.at_ 1
       have f0 := b4.fr 0
       have f1 := b4.fr 1
       have HF4 := Hid.intro_ hf4
       have hB3 : Hid (B ≤ w3.heap.size) := Hid.intro_ (by have := KV3.out.size; have := HBB.out; omega)
       clear hs4 hf4))
  refine bodyPost_ret (v := .agg #[.int .i64 block, .slice A4 4 c4]) (by simp [results, Tryz.results11, go_sem, z0, z1]) rfl ?_
  have ks := ((Keep.refl (fun b => b = w.heap.size) w4).setCell (p := ⟨w.heap.size, 0, none⟩) (fun _ => rfl) (.int .i64 block)).setCell (p := ⟨w.heap.size, 1, none⟩) (fun _ => rfl) (.slice A4 4 c4)
  refine ⟨A4, c4, rfl, ⟨_, rfl, (HF4.out.mono (fun b hb _ => ?_)).far (g := w.heap.size) ks (fun cs t fr hc => ?_)⟩, kk.out.trans ks (fun b hb e => by have : b = w.heap.size := e; omega)⟩
  · rcases hb with hb | hb
    · exact hb
    · have := hB3.out; omega
  · have hb := b4
    unfold Blk at hb
    rw [hc] at hb
    injection hb with hb
    injection hb with _ hb
    subst hb
    exact ⟨by decide, by decide, by decide⟩
end Go.Proofs.YtadipinnbehhhaaGreatDoor
namespace Go.Proofs.YtadipinnbehhhaaGreatDoor
open Go.RowKit

/-- The node file of records. -/
def ndFile (L : List R4) (block : Nat) : AFile := ⟨true, blocksB 2 L block⟩
/-- The law's files. -/
def akFs (L1 L2 : List R4) (block : Nat) : List (ByteArray × AFile) := rgFs (ndFile L1 block) (ndFile L2 block) block
section
variable {block K : Nat} {L1 L2 : List R4} {F1 F2 : AFile}
theorem nmG_ok : okName nmG = true := by decide +kernel
theorem rg_ok : ∀ f ∈ rgFs F1 F2 block, okName f.1 = true := by
  intro f hf
  rcases List.mem_cons.1 hf with rfl | hf
  · exact nmF_ok
  rcases List.mem_cons.1 hf with rfl | hf
  · exact nmG_ok
  · exact stray_ok f hf
theorem rg_short : ∀ f ∈ rgFs F1 F2 block, f.1.size ≤ 32 := by
  intro f hf
  rcases List.mem_cons.1 hf with rfl | hf
  · show nmF.size ≤ 32; decide +kernel
  rcases List.mem_cons.1 hf with rfl | hf
  · show nmG.size ≤ 32; decide +kernel
  · exact stray_short f hf
theorem rg_rises : rises ((rgFs F1 F2 block).map (·.1)) := by
  show rises (nmF :: nmG :: (strayFs block).map (·.1))
  unfold rises
  rw [List.pairwise_cons, List.pairwise_cons]
  refine ⟨fun b hb => ?_, fun b hb => ?_, stray_rises⟩
  · rw [stray_names] at hb
    simp only [List.mem_cons, List.not_mem_nil, or_false] at hb
    rcases hb with rfl | rfl | rfl
    · decide +kernel
    · decide +kernel
    · decide +kernel
  · rw [stray_names] at hb
    simp only [List.mem_cons, List.not_mem_nil, or_false] at hb
    rcases hb with rfl | rfl
    · decide +kernel
    · decide +kernel
theorem ak_blocks (hF : fit block = K) (h0 : 0 < K) : ∀ f ∈ akFs L1 L2 block, ∀ b ∈ f.2.blocks, b.length = block := by
  intro f hf b hb
  rcases List.mem_cons.1 hf with rfl | hf
  · exact blocksB_size 2 _ hF h0 b hb
  rcases List.mem_cons.1 hf with rfl | hf
  · exact blocksB_size 2 _ hF h0 b hb
  · exact stray_blocks hF h0 f hf b hb
theorem ak_bytes : Bytes (akFs L1 L2 block) := by
  intro f hf b hb
  rcases List.mem_cons.1 hf with rfl | hf
  · exact blocksB_bytes 2 _ (by omega) b hb
  rcases List.mem_cons.1 hf with rfl | hf
  · exact blocksB_bytes 2 _ (by omega) b hb
  · exact stray_bytes f hf b hb
theorem nd_len (L : List R4) (hF : fit block = K) (h0 : 0 < K) : (ndFile L block).blocks.length ≤ L.length := by
  have hb : 0 < block / 32 - 1 := by
    unfold fit at hF
    split at hF <;> omega
  show (blocksB 2 L block).length ≤ _
  rw [blocksB_len]; exact nblk_le _ _ hb
theorem ak_total (hF : fit block = K) (h0 : 0 < K) : total (akFs L1 L2 block) ≤ L1.length + L2.length + 1 := by
  have h1 := stray_total hF h0
  have h2 := nd_len L1 hF h0
  have h3 := nd_len L2 hF h0
  unfold total at h1 ⊢
  show (ndFile L1 block).blocks.length + ((ndFile L2 block).blocks.length + ((strayFs block).map fun f => f.2.blocks.length).sum) ≤ _
  omega
theorem ak_few (hF : fit block = K) (h0 : 0 < K) (hl : L1.length ≤ 268435456) (hl2 : L2.length ≤ 268435456) : Few (akFs L1 L2 block) := by
  refine ⟨by simp [akFs, rgFs, strayFs], fun f hf => ?_⟩
  have h1 := blocks_total hf
  have h2 := ak_total (L1 := L1) (L2 := L2) hF h0
  omega
theorem ak_f {c : Cx} (h : ∀ r ∈ L1, r.Ok) (hl : L1.length ≤ 268435456) : TapeOn c (akFs L1 L2 c.block) nmF 2 L1 := by
  refine ⟨nmF_ok, ⟨0, ?_⟩, h, by omega, by omega⟩
  unfold akFs rgFs fpos
  rw [if_pos rfl]
  rfl
theorem ak_g {c : Cx} (h : ∀ r ∈ L2, r.Ok) (hl : L2.length ≤ 268435456) : TapeOn c (akFs L1 L2 c.block) nmG 2 L2 := by
  refine ⟨nmG_ok, ⟨1, ?_⟩, h, by omega, by omega⟩
  unfold akFs rgFs fpos
  rw [if_neg (by decide +kernel)]
  unfold fpos
  rw [if_pos rfl]
  rfl
end
end Go.Proofs.YtadipinnbehhhaaGreatDoor
namespace Go.Proofs.YtadipinnbehhhaaGreatDoor
open Go.RowKit

structure WhPost (E : Nat → Addr) (block K : Nat) (fs : List (ByteArray × AFile)) (v : Value) (w : World) (e : Ending) (w' : World) : Prop where mk ::
  out : ∃ d p lk k G, e = .returned (.tuple #[.agg #[.pointer (some ⟨d, 0, none⟩), .pointer (some ⟨p, 0, none⟩), .pointer (some ⟨k, 0, none⟩), .int .i64 block, v], .bool true]) ∧
    RmAt ⟨E, d, p, lk, k, none, K, block⟩ w' G { D := mountD (block : Int) 1099511627776 fs, S := PSt.new (64 * (K : Int)), next := 1 } ∧ (∀ z, G z → w.heap.size ≤ z) ∧ Keep Nil w w'
/-- A result of five cells, stored. -/
theorem res5 {w2 : World} {T : Nat} {t : TypeId} {x0 x1 x2 x3 x4 : Value} (hb : Blk w2 T t #[x0, x1, x2, x3, x4]) (u0 u1 u2 u3 u4 : Value) (X : World) (hX : X = ((((w2.setCell ⟨T, 0, none⟩ u0).setCell ⟨T, 1, none⟩ u1).setCell ⟨T, 2, none⟩ u2).setCell ⟨T, 3, none⟩ u3).setCell ⟨T, 4, none⟩ u4) :
    (X.cell? ⟨T, 0, none⟩ = some u0 ∧ X.cell? ⟨T, 1, none⟩ = some u1 ∧ X.cell? ⟨T, 2, none⟩ = some u2 ∧ X.cell? ⟨T, 3, none⟩ = some u3 ∧ X.cell? ⟨T, 4, none⟩ = some u4) ∧ Keep (fun z => z = T) w2 X := by
  subst hX
  have h1 : Blk (w2.setCell ⟨T, 0, none⟩ u0) T t #[u0, x1, x2, x3, x4] := hb.set_ 0 u0
  have h2 : Blk ((w2.setCell ⟨T, 0, none⟩ u0).setCell ⟨T, 1, none⟩ u1) T t #[u0, u1, x2, x3, x4] := h1.set_ 1 u1
  have h3 : Blk (((w2.setCell ⟨T, 0, none⟩ u0).setCell ⟨T, 1, none⟩ u1).setCell ⟨T, 2, none⟩ u2) T t #[u0, u1, u2, x3, x4] := h2.set_ 2 u2
  have h4 : Blk ((((w2.setCell ⟨T, 0, none⟩ u0).setCell ⟨T, 1, none⟩ u1).setCell ⟨T, 2, none⟩ u2).setCell ⟨T, 3, none⟩ u3) T t #[u0, u1, u2, u3, x4] := h3.set_ 3 u3
  have h5 : Blk (((((w2.setCell ⟨T, 0, none⟩ u0).setCell ⟨T, 1, none⟩ u1).setCell ⟨T, 2, none⟩ u2).setCell ⟨T, 3, none⟩ u3).setCell ⟨T, 4, none⟩ u4) T t #[u0, u1, u2, u3, u4] := h4.set_ 4 u4
  exact ⟨⟨h5.at_ 0, h5.at_ 1, h5.at_ 2, h5.at_ 3, h5.at_ 4⟩, (((((Keep.refl (fun z => z = T) w2).setCell (p := ⟨T, 0, none⟩) (fun _ => rfl) u0).setCell (p := ⟨T, 1, none⟩) (fun _ => rfl) u1).setCell (p := ⟨T, 2, none⟩) (fun _ => rfl) u2).setCell (p := ⟨T, 3, none⟩) (fun _ => rfl) u3).setCell (p := ⟨T, 4, none⟩) (fun _ => rfl) u4⟩
set_option maxRecDepth 100000 in
set_option maxHeartbeats 4000000 in
theorem whole_ok (E : Nat → Addr) (block K : Nat) (fs : List (ByteArray × AFile)) (A : Option Addr) (n cc : Nat) (w : World) (h : StAt w (fun z => z < w.heap.size) (.agg #[.int .i64 block, .slice A n cc]) block fs) (hb1 : 64 ≤ block ∧ block ≤ 65536 ∧ block % 32 = 0)
    (hn : ∀ f ∈ fs, okName f.1 = true) (hb : ∀ f ∈ fs, ∀ b ∈ f.2.blocks, (b.length : Int) = block) (h8 : Bytes fs) (hrise : rises (fs.map (·.1))) (ht : (total fs : Int) ≤ 1099511627776) (hlen : Few fs) (hK : fit block = K) (h0 : 0 < K) (hK9 : K ≤ 9) (he : ErrsAt w E) (hh : HalvesAt w) (hm : MagicAt w) :
    Calls Tryz.prog 35 #[.agg #[.int .i64 block, .slice A n cc], .int .i64 0] w (WhPost E block K fs (.slice A n cc) w) := by
  obtain ⟨W, hW⟩ : ∃ W, W = (w.alloc (.cells #[.int .i64 block, .slice A n cc] 28)).alloc (.cells #[.pointer none, .pointer none, .pointer none, .int .i64 0, .slice none 0 0] 35) := ⟨_, rfl⟩
  have kW : Keep Nil w W := by rw [hW]; exact ((Keep.refl Nil w).alloc _).alloc _
  have bS : Blk W w.heap.size 28 #[.int .i64 block, .slice A n cc] := by rw [hW]; exact (Blk.new w _ _).alloc _
  have bR : Blk W (w.heap.size + 1) 35 #[.pointer none, .pointer none, .pointer none, .int .i64 0, .slice none 0 0] := by rw [hW]; exact Blk.new_at _ _ _ (by simp)
  have hft := rfit_any block W
  rw [hK] at hft
  have hw1 : wrap64 (64 * (K : Int)) = 64 * (K : Int) := wrap_low _ (by omega)
  have hst : StAt W (fun z => z < w.heap.size) (.agg #[.int .i64 block, .slice A n cc]) block fs := h.nil kW
  have HOP := Hid.intro_ (open_ok (fun z => z < w.heap.size) (.slice A n cc) block 1099511627776 (64 * (K : Int)) fs W hst (by omega) (by omega) (by omega) (by decide) (by decide) (by omega) (by omega) hn hb h8 hrise ht hlen (by rw [hK]; omega))
  have HFT := Hid.intro_ hft
  have HEW := Hid.intro_ (he.keep kW (fun _ _ h => h) (fun _ _ h => h))
  have HHW := Hid.intro_ (hh.keep kW (fun h => h))
  have HMW := Hid.intro_ (hm.keep kW (fun h => h))
  have henv : Envs E w (fun _ => False) := ⟨⟨he, fun _ _ h => h.elim, fun _ _ h => h.elim⟩, hh, hm, fun h => h.elim, fun h => h.elim⟩
  have HOFF := Hid.intro_ (show Off E (fun _ => False) (w.heap.size + 1) from Off.new henv (fun _ h => h.elim) (by omega))
  have i0 : W.cell? ⟨w.heap.size, 0, none⟩ = some (.int .i64 block) := bS.at_ 0
  have i1 : W.cell? ⟨w.heap.size, 1, none⟩ = some (.slice A n cc) := bS.at_ 1
  have HBR := Hid.intro_ bR
  have HKW := Hid.intro_ kW
  have HKK := Hid.intro_ hK
  have HWS := Hid.intro_ (show W.heap.size = w.heap.size + 1 + 1 by rw [hW]; simp)
  clear h hn hb h8 hrise ht hlen he hh hm henv hst hft kW bS bR hK
  go_enter Tryz.func35, Tryz.ntmps35
  go_upto_region 1 with (fail)
  rw [← hW]
  clear hW
  go_wp2_with (go_at_call 10; refine HFT.out.mono ?_; rintro e w' ⟨rfl, hw⟩; obtain rfl := hw.symm)
  refine HOP.out.mono ?_
  rintro e w3 ⟨d, p, lk, k, m0, m, rfl, hop⟩
  obtain ⟨hrm, hG⟩ := open_rm hop HEW.out HHW.out HMW.out HKK.out h0
  have b3 := HBR.out.keep hop.keep (fun h => h)
  have z0 : w3.cell? ⟨w.heap.size + 1, 0, none⟩ = some (.pointer none) := b3.at_ 0
  have z1 : w3.cell? ⟨w.heap.size + 1, 1, none⟩ = some (.pointer none) := b3.at_ 1
  have z2 : w3.cell? ⟨w.heap.size + 1, 2, none⟩ = some (.pointer none) := b3.at_ 2
  have z3 : w3.cell? ⟨w.heap.size + 1, 3, none⟩ = some (.int .i64 0) := b3.at_ 3
  have z4 : w3.cell? ⟨w.heap.size + 1, 4, none⟩ = some (.slice none 0 0) := b3.at_ 4
  have g0 := b3.fr 0
  have g1 := b3.fr 1
  have g2 := b3.fr 2
  have g3 := b3.fr 3
  have g4 := b3.fr 4
  have HRM := Hid.intro_ hrm
  have HG := Hid.intro_ hG
  have HB3 := Hid.intro_ b3
  have HK3 := Hid.intro_ (HKW.out.then_ hop.keep)
  clear hop hrm hG b3
  go_wp2_with fail
  obtain ⟨T, hT⟩ : ∃ T, T = w.heap.size + 1 := ⟨_, rfl⟩
  rw [← hT] at HB3 HOFF ⊢
  have HTT := Hid.intro_ hT
  generalize hX : ((((w3.setCell ⟨T, 0, none⟩ (.pointer (some ⟨d, 0, none⟩))).setCell ⟨T, 1, none⟩ (.pointer (some ⟨p, 0, none⟩))).setCell ⟨T, 2, none⟩ (.pointer (some ⟨k, 0, none⟩))).setCell ⟨T, 3, none⟩ (.int .i64 block)).setCell ⟨T, 4, none⟩ (.slice A n cc) = Z at *
  obtain ⟨⟨y0, y1, y2, y3, y4⟩, kz⟩ := res5 HB3.out _ _ _ _ _ Z hX.symm
  have hrz := HRM.out.keep kz (fun z hz e => by
    have h1 := HG.out z hz
    have h2 := HWS.out
    have h3 := HTT.out
    have e : z = T := e
    omega) ⟨⟨HRM.out.env.errs.errs, fun i hi e => (HOFF.out.2.1 i hi).1 e, fun i hi e => (HOFF.out.2.1 i hi).2 e⟩, HRM.out.env.halves, HRM.out.env.magic, fun e => HOFF.out.2.2.1 (Eq.symm e), fun e => HOFF.out.2.2.2 (Eq.symm e)⟩
  refine bodyPost_ret (v := .tuple #[.agg #[.pointer (some ⟨d, 0, none⟩), .pointer (some ⟨p, 0, none⟩), .pointer (some ⟨k, 0, none⟩), .int .i64 block, .slice A n cc], .bool true]) (by simp [results, Tryz.results35, go_sem, y0, y1, y2, y3, y4]) rfl ⟨d, p, lk, k, _, rfl, hrz, fun z hz => by have := HG.out z hz; have := HWS.out; omega, HK3.out.trans kz (fun z hz e => by have := HTT.out; have e : z = T := e; omega)⟩
end Go.Proofs.YtadipinnbehhhaaGreatDoor
