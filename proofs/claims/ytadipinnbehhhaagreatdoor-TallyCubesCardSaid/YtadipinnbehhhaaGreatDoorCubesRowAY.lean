/- Parts of the proof: OfD TwoR TwoK RefE SameD EqualP WidthP FormD FormL Whole AsksOn Fld. -/
import Derived.Test.YtadipinnbehhhaaGreatDoorCubesRowAO
import Derived.Test.YtadipinnbehhhaaGreatDoorCubesRowAI
import Derived.Test.YtadipinnbehhhaaGreatDoorCubesRowAG
import Derived.Test.YtadipinnbehhhaaGreatDoorCubesRowAR
import Derived.Test.YtadipinnbehhhaaGreatDoorCubesRowAU
import Derived.Test.YtadipinnbehhhaaGreatDoorCubesRowAN
namespace Go.Proofs.YtadipinnbehhhaaGreatDoor
open Go.RowKit

def zeroD : Value := .agg #[.int .i64 0, .int .u64 0, .int .i64 0, .slice none 0 0]
structure OfPost (L : List R4) (w : World) (e : Ending) (w' : World) : Prop where mk ::
  some_ : ∀ d, ofL L = some d → ∃ A c base, e = .returned (.tuple #[dgV d A c, .bool true]) ∧ w.heap.size ≤ base ∧ w'.ownsRow base 46 3 (.slice A d.P.length c) d.P.length (ndCells d.P)
  none_ : ofL L = none → e = .returned (.tuple #[zeroD, .bool false])
  keep : Keep Nil w w'
theorem OfPost.good {L : List R4} {d : Dg} {w w' : World} {A : Option Addr} {c base : Nat} (h : ofL L = some d) (k : Keep Nil w w') (hb : w.heap.size ≤ base) (ho : w'.ownsRow base 46 3 (.slice A d.P.length c) d.P.length (ndCells d.P)) : OfPost L w (.returned (.tuple #[dgV d A c, .bool true])) w' := ⟨fun d' hd => (by rw [h] at hd; injection hd with hd; subst hd; exact ⟨A, c, base, rfl, hb, ho⟩), fun hd => (by rw [h] at hd; cases hd), k⟩
theorem OfPost.bad {L : List R4} {w w' : World} (h : ofL L = none) (k : Keep Nil w w') : OfPost L w (.returned (.tuple #[zeroD, .bool false])) w' := ⟨fun d hd => (by rw [h] at hd; cases hd), fun _ => rfl, k⟩
theorem res4 {w w2 : World} {t : TypeId} {x0 x1 x2 x3 : Value} (hb : Blk w2 w.heap.size t #[x0, x1, x2, x3]) (k : Keep Nil w w2) (u v x y : Value) (X : World) (hX : X = (((w2.setCell ⟨w.heap.size, 0, none⟩ u).setCell ⟨w.heap.size, 1, none⟩ v).setCell ⟨w.heap.size, 2, none⟩ x).setCell ⟨w.heap.size, 3, none⟩ y) :
    X.cell? ⟨w.heap.size, 0, none⟩ = some u ∧ X.cell? ⟨w.heap.size, 1, none⟩ = some v ∧ X.cell? ⟨w.heap.size, 2, none⟩ = some x ∧ X.cell? ⟨w.heap.size, 3, none⟩ = some y ∧ Keep Nil w X := by
  subst hX
  have hb1 : Blk (w2.setCell ⟨w.heap.size, 0, none⟩ u) w.heap.size t #[u, x1, x2, x3] := hb.set_ 0 u
  have hb2 : Blk ((w2.setCell ⟨w.heap.size, 0, none⟩ u).setCell ⟨w.heap.size, 1, none⟩ v) w.heap.size t #[u, v, x2, x3] := hb1.set_ 1 v
  have hb3 : Blk (((w2.setCell ⟨w.heap.size, 0, none⟩ u).setCell ⟨w.heap.size, 1, none⟩ v).setCell ⟨w.heap.size, 2, none⟩ x) w.heap.size t #[u, v, x, x3] := hb2.set_ 2 x
  have hb4 : Blk ((((w2.setCell ⟨w.heap.size, 0, none⟩ u).setCell ⟨w.heap.size, 1, none⟩ v).setCell ⟨w.heap.size, 2, none⟩ x).setCell ⟨w.heap.size, 3, none⟩ y) w.heap.size t #[u, v, x, y] := hb3.set_ 3 y
  have kp := ((((Keep.refl (fun z => z = w.heap.size) w2).setCell (p := ⟨w.heap.size, 0, none⟩) (fun _ => rfl) u).setCell (p := ⟨w.heap.size, 1, none⟩) (fun _ => rfl) v).setCell (p := ⟨w.heap.size, 2, none⟩) (fun _ => rfl) x).setCell (p := ⟨w.heap.size, 3, none⟩) (fun _ => rfl) y
  exact ⟨hb4.at_ 0, hb4.at_ 1, hb4.at_ 2, hb4.at_ 3, k.trans kp (fun b hb e => by have e : b = w.heap.size := e; omega)⟩
theorem endL_last {L : List R4} {r : R4} {l0 : List R4} (h : L.reverse = r :: l0) : endL L = if isE r.a r.b r.c r.d = true then some (r.b, r.c, r.d) else none := by
  unfold endL
  rw [h]
theorem ofL_nend {L : List R4} (h : endL L = none) : ofL L = none := by
  unfold ofL openedL
  rw [h]
theorem ofL_nlen {L : List R4} {v r m : Nat} (h : endL L = some (v, r, m)) (hn : ¬ L.length = m + 1) : ofL L = none := by
  unfold ofL openedL
  rw [h]
  simp only
  rw [if_neg hn]
theorem ofL_walk {L : List R4} {v r m : Nat} (h : endL L = some (v, r, m)) (hn : L.length = m + 1) {Q : List N3 × Bool} (hQ : Q = walkN true v r (m + 1) (L.take m) 0 n0) :
    ofL L = if Q.2 = false ∧ (m = 0 ∨ (lastN Q.1).self = r) then some ⟨v, r, m, Q.1⟩ else none := by
  subst hQ
  unfold ofL openedL
  rw [h]
  simp only
  rw [if_pos hn]
theorem fitsB_in {r m k : Nat} {last n : N3} (hk : k < m) : fitsB true r (m + 1) k last n = if k = 0 then sI n.self == 0 else flw n.self n.low n.high last.self last.low last.high := by
  unfold fitsB
  rw [decide_eq_true (show k + 1 < m + 1 by omega)]
  simp
set_option maxRecDepth 100000 in
set_option maxHeartbeats 16000000 in
theorem of_any (A : Option Addr) (cap : Nat) (L : List R4) (w : World) (hr : Rd w A (rcCells L)) (ho : ∀ r ∈ L, r.Ok) (hl : L.length ≤ 1099511627776) :
    Calls Tryz.prog 87 #[.slice A L.length cap] w (OfPost L w) := by
  obtain ⟨W, hW⟩ : ∃ W, W = w.alloc (.cells #[.int .i64 0, .int .u64 0, .int .i64 0, .slice none 0 0] 86) := ⟨_, rfl⟩
  have kW : Keep Nil w W := by rw [hW]; exact (Keep.refl Nil w).alloc _
  have bW : Blk W w.heap.size 86 #[.int .i64 0, .int .u64 0, .int .i64 0, .slice none 0 0] := by rw [hW]; exact Blk.new w _ _
  have hWs : W.heap.size = w.heap.size + 1 := by rw [hW]; simp
  by_cases hL : L = []
  · subst hL
    have HT := Hid.intro_ (show ofL [] = none from rfl)
    have z0 : W.cell? ⟨w.heap.size, 0, none⟩ = some (.int .i64 0) := bW.at_ 0
    have z1 : W.cell? ⟨w.heap.size, 1, none⟩ = some (.int .u64 0) := bW.at_ 1
    have z2 : W.cell? ⟨w.heap.size, 2, none⟩ = some (.int .i64 0) := bW.at_ 2
    have z3 : W.cell? ⟨w.heap.size, 3, none⟩ = some (.slice none 0 0) := bW.at_ 3
    have g0 := bW.fr 0
    have g1 := bW.fr 1
    have g2 := bW.fr 2
    have g3 := bW.fr 3
    have HB := Hid.intro_ bW
    have HK := Hid.intro_ kW
    clear hr ho hl kW bW hWs
    go_enter Tryz.func87, Tryz.ntmps87
    go_upto_region 1 with (fail)
    rw [← hW]
    clear hW
    go_wp2_with fail
    generalize hX : (((W.setCell ⟨w.heap.size, 0, none⟩ (.int .i64 0)).setCell ⟨w.heap.size, 1, none⟩ (.int .u64 0)).setCell ⟨w.heap.size, 2, none⟩ (.int .i64 0)).setCell ⟨w.heap.size, 3, none⟩ (.slice none 0 0) = X at *
    obtain ⟨y0, y1, y2, y3, hk⟩ := res4 HB.out HK.out _ _ _ _ X hX.symm
    refine bodyPost_ret (v := .tuple #[.agg #[.int .i64 0, .int .u64 0, .int .i64 0, .slice none 0 0], .bool false]) (by simp [results, Tryz.results87, go_sem, y0, y1, y2, y3]) rfl (OfPost.bad HT.out hk)
  obtain ⟨g, o, rfl⟩ := rd_at hr (rc_ne hL)
  obtain ⟨n, hn⟩ : ∃ n, L.length = n + 1 := ⟨L.length - 1, by have := List.length_pos_iff.2 hL; omega⟩
  obtain ⟨r, hrn⟩ : ∃ r, L[n]? = some r := ⟨_, List.getElem?_eq_getElem (by omega)⟩
  have hro := ho r (List.mem_of_getElem? hrn)
  obtain ⟨l0, hrev⟩ : ∃ l0, L.reverse = r :: l0 := by
    cases hv : L.reverse with
    | nil => exact absurd (by simpa using hv) hL
    | cons r0 l0 =>
      have h1 : L.reverse[0]? = some r0 := by rw [hv]; rfl
      rw [List.getElem?_reverse (by omega), hn, show n + 1 - 1 - 0 = n by omega, hrn] at h1
      injection h1 with h1
      exact ⟨l0, by rw [h1]⟩
  have hend := endL_last hrev
  obtain ⟨p0, p1, p2, p3⟩ := rec_at (hr.keep kW (fun _ _ _ h => h)) hrn
  have HRG := Hid.intro_ (show g < w.heap.size by have := cell_lt (rec_at hr hrn).1; simpa using this)
  have hie := isend_any r.a r.b r.c r.d hro.a hro.b hro.c hro.d W
  have hw1 : wrap64 (n : Int) = (n : Int) := wrap_low _ (by omega)
  have hn0 : ((n : Int) + 1 == 0) = false := by simp; omega
  have hn1 : (n : Int) < (n : Int) + 1 := by omega
  have hn40 : n < 1099511627776 := by omega
  have HB := Hid.intro_ bW
  have HK := Hid.intro_ kW
  have HWS := Hid.intro_ hWs
  clear kW bW hWs
  cases hok : isE r.a r.b r.c r.d with
  | false =>
    rw [hok] at hend hie
    simp only [Bool.false_eq_true, if_false] at hend hie
    have HT := Hid.intro_ (ofL_nend hend)
    have HIE := Hid.intro_ hie
    rw [hn]
    unfold rcV inV at *
    clear hr ho hl hL hn hrn hro hrev hend hie hok
    go_enter Tryz.func87, Tryz.ntmps87
    go_upto_region 1 with (fail)
    rw [← hW]
    clear hW
    go_wp2_with fail
    refine HIE.out.mono ?_
    rintro e w2 ⟨rfl, k2⟩
    have hb2 := HB.out.keep k2 (fun h => h)
    have hlt2 := hb2.lt
    have z0 : w2.cell? ⟨w.heap.size, 0, none⟩ = some (.int .i64 0) := hb2.at_ 0
    have z1 : w2.cell? ⟨w.heap.size, 1, none⟩ = some (.int .u64 0) := hb2.at_ 1
    have z2 : w2.cell? ⟨w.heap.size, 2, none⟩ = some (.int .i64 0) := hb2.at_ 2
    have z3 : w2.cell? ⟨w.heap.size, 3, none⟩ = some (.slice none 0 0) := hb2.at_ 3
    have g0 := hb2.fr 0
    have g1 := hb2.fr 1
    have g2 := hb2.fr 2
    have g3 := hb2.fr 3
    have hne : ¬ w.heap.size = w2.heap.size := by omega
    have hne2 : ¬ w2.heap.size = w.heap.size := by omega
    obtain ⟨V, hV⟩ : ∃ V, V = w2.alloc (.cells #[.int .i64 0, .int .u64 0, .int .i64 0] 72) := ⟨_, rfl⟩
    have HBV := Hid.intro_ (show Blk V w.heap.size 86 #[.int .i64 0, .int .u64 0, .int .i64 0, .slice none 0 0] by rw [hV]; exact hb2.alloc _)
    have HKV := Hid.intro_ (show Keep Nil w V by rw [hV]; exact (HK.out.then_ k2).alloc _)
    have zv0 : V.cell? ⟨w.heap.size, 0, none⟩ = some (.int .i64 0) := HBV.out.at_ 0
    have zv1 : V.cell? ⟨w.heap.size, 1, none⟩ = some (.int .u64 0) := HBV.out.at_ 1
    have zv2 : V.cell? ⟨w.heap.size, 2, none⟩ = some (.int .i64 0) := HBV.out.at_ 2
    have zv3 : V.cell? ⟨w.heap.size, 3, none⟩ = some (.slice none 0 0) := HBV.out.at_ 3
    have gv0 := HBV.out.fr 0
    have gv1 := HBV.out.fr 1
    have gv2 := HBV.out.fr 2
    have gv3 := HBV.out.fr 3
    clear hb2 k2 z0 z1 z2 z3 g0 g1 g2 g3
    go_upto_region 4 with (fail)
    rw [← hV]
    clear hV
    go_wp2_with fail
    generalize hX : (((V.setCell ⟨w.heap.size, 0, none⟩ (.int .i64 0)).setCell ⟨w.heap.size, 1, none⟩ (.int .u64 0)).setCell ⟨w.heap.size, 2, none⟩ (.int .i64 0)).setCell ⟨w.heap.size, 3, none⟩ (.slice none 0 0) = X at *
    obtain ⟨y0, y1, y2, y3, hk⟩ := res4 HBV.out HKV.out _ _ _ _ X hX.symm
    refine bodyPost_ret (v := .tuple #[.agg #[.int .i64 0, .int .u64 0, .int .i64 0, .slice none 0 0], .bool false]) (by simp [results, Tryz.results87, go_sem, y0, y1, y2, y3]) rfl (OfPost.bad HT.out hk)
  | true =>
    rw [hok] at hend hie
    simp only [if_true] at hend hie
    obtain ⟨hv, hm63, _⟩ := endL_some' hend
    obtain ⟨v, hvv⟩ : ∃ v, v = r.b := ⟨_, rfl⟩
    obtain ⟨rt, hrr⟩ : ∃ rt, rt = r.c := ⟨_, rfl⟩
    obtain ⟨m, hmm⟩ : ∃ m, m = r.d := ⟨_, rfl⟩
    rw [← hvv, ← hrr, ← hmm] at hie
    unfold rcV inV at *
    rw [← hvv] at p1
    rw [← hrr] at p2
    rw [← hmm] at p3
    rw [← hvv] at hv
    rw [← hmm] at hm63
    rw [← hvv, ← hrr, ← hmm] at hend
    by_cases hnm : L.length = m + 1
    · obtain ⟨Q, hQ⟩ : ∃ Q, Q = walkN true v rt (m + 1) (L.take m) 0 n0 := ⟨_, rfl⟩
      have HOL := Hid.intro_ (ofL_walk hend hnm hQ)
      have hst := Hid.intro_ (show WkInv true v rt (m + 1) (L.take m) Q 0 [] by rw [hQ]; exact WkInv.start)
      obtain ⟨recs, hrecs⟩ : ∃ recs, recs = (L.take m) := ⟨_, rfl⟩
      rw [← hrecs] at hst
      have hrl : recs.length = m := by rw [hrecs]; simp; omega
      have hrat := Hid.intro_ (show ∀ k, k < m → ∃ q, recs[k]? = some q ∧ L[k]? = some q ∧ q.Ok by
        intro k hk
        obtain ⟨q, hq⟩ : ∃ q, L[k]? = some q := ⟨_, List.getElem?_eq_getElem (by omega)⟩
        refine ⟨q, ?_, hq, ho q (List.mem_of_getElem? hq)⟩
        rw [hrecs]
        rw [List.getElem?_take, if_pos hk]; exact hq)
      have HRD := Hid.intro_ hr
      have HRL := Hid.intro_ hrl
      have HIE := Hid.intro_ hie
      have hnm' : n = m := by omega
      subst hnm'
      have hq : ((n : Int) != (n : Int)) = false := by simp
      obtain ⟨i1, hi1, hy0, hy1, hy2⟩ := info_parts info_node
      rw [hn]
      clear hr ho hl hL hn hrn hro hrev hend hie hok hnm hvv hrr hmm hQ hrecs hrl
      go_enter Tryz.func87, Tryz.ntmps87
      go_upto_region 1 with (fail)
      rw [← hW]
      clear hW
      go_wp2_with fail
      refine HIE.out.mono ?_
      rintro e w2 ⟨rfl, k2⟩
      have hb2 := HB.out.keep k2 (fun h => h)
      have hlt2 := hb2.lt
      have hne0 : ¬ w.heap.size = w2.heap.size := by omega
      have hne1 : ¬ w.heap.size = w2.heap.size + 1 := by omega
      obtain ⟨V, hV⟩ : ∃ V, V = (w2.alloc (.cells #[.int .i64 v, .int .u64 rt, .int .i64 n] 72)).alloc (.cells #[.int .i64 v, .int .u64 rt, .int .i64 n, .slice none 0 0] 86) := ⟨_, rfl⟩
      have HBV := Hid.intro_ (show Blk V w.heap.size 86 #[.int .i64 0, .int .u64 0, .int .i64 0, .slice none 0 0] by rw [hV]; exact (hb2.alloc _).alloc _)
      have HKV := Hid.intro_ (show Keep Nil w V by rw [hV]; exact ((HK.out.then_ k2).alloc _).alloc _)
      have HIV := Hid.intro_ (show Blk V w2.heap.size 72 #[.int .i64 v, .int .u64 rt, .int .i64 n] by rw [hV]; exact (Blk.new w2 _ _).alloc _)
      have HDV := Hid.intro_ (show Blk V (w2.heap.size + 1) 86 #[.int .i64 v, .int .u64 rt, .int .i64 n, .slice none 0 0] by rw [hV]; exact Blk.new_at _ _ _ (by simp))
      have HVS := Hid.intro_ (show V.heap.size = w2.heap.size + 1 + 1 by rw [hV]; simp)
      have HWL := Hid.intro_ (show w.heap.size < w2.heap.size by have := k2.size; have := HWS.out; omega)
      have HRV := Hid.intro_ (HRD.out.keep HKV.out (fun _ _ _ h => h))
      clear hb2 k2
      go_upto_region 7 with (fail)
      rw [← hV]
      clear hV
      obtain ⟨D, hD⟩ : ∃ D, D = w2.heap.size + 1 := ⟨_, rfl⟩
      obtain ⟨I, hI⟩ : ∃ I, I = w2.heap.size := ⟨_, rfl⟩
      rw [← hD] at HDV ⊢
      rw [← hI] at HIV ⊢
      have HDE := Hid.intro_ hD
      have HIE2 := Hid.intro_ hI
      clear hD hI
      go_wp2_with fail
      go_loopw [7] (fun i wr => ∃ (k : Nat) (P : List N3) (a : Value), k ≤ n ∧ i = .int .i64 k ∧ Hid (wr.ownsRow (w2.heap.size + 1 + 1) 46 3 a P.length (ndCells P)) ∧ Hid (Blk wr D 86 #[.int .i64 v, .int .u64 rt, .int .i64 n, a]) ∧ Hid (WkInv true v rt (n + 1) recs Q k P) ∧ Hid (Keep (fun z => z = D) V wr)) (fun i _ => n - (intOf i).toNat)
      case atStart => exact ⟨0, [], _, Nat.zero_le _, rfl, Hid.intro_ (World.ownsRow_nil _ _ _ _), HDV, hst, Hid.intro_ (Keep.refl _ _)⟩
      case round =>
        obtain ⟨k, P, a, hkm, rfl, HO, HBD, HI, HK2⟩ := hrel
        have hND : ¬ I = D := by have := HDE.out; have := HIE2.out; omega
        have hWD : ¬ w.heap.size = D := by have := HDE.out; have := HWL.out; omega
        have bI := HIV.out.keep HK2.out hND
        have bZ := HBV.out.keep HK2.out hWD
        have x0 : wr.cell? ⟨I, 0, none⟩ = some (.int .i64 v) := bI.at_ 0
        have x1 : wr.cell? ⟨I, 1, none⟩ = some (.int .u64 rt) := bI.at_ 1
        have x2 : wr.cell? ⟨I, 2, none⟩ = some (.int .i64 n) := bI.at_ 2
        have d0 : wr.cell? ⟨D, 0, none⟩ = some (.int .i64 v) := HBD.out.at_ 0
        have d1 : wr.cell? ⟨D, 1, none⟩ = some (.int .u64 rt) := HBD.out.at_ 1
        have d2 : wr.cell? ⟨D, 2, none⟩ = some (.int .i64 n) := HBD.out.at_ 2
        have d3 : wr.cell? ⟨D, 3, none⟩ = some a := HBD.out.at_ 3
        have HBI := Hid.intro_ bI
        have HBZ := Hid.intro_ bZ
        have HND := Hid.intro_ hND
        have HWD := Hid.intro_ hWD
        obtain ⟨A9, c9, hav⟩ := own_form HO.out
        subst hav
        by_cases hlt : k < n

        · obtain ⟨q, hq1, hq2, hqo⟩ := hrat.out k hlt
          obtain ⟨p0, p1, p2, p3⟩ := rec_at (HRV.out.keep HK2.out (fun a ha _ e => by
            injection ha with ha
            rw [← ha] at e
            have e : g = D := e
            have h1 := HRG.out
            have h2 := HDE.out
            have h3 := HWL.out
            omega)) hq2
          have HQ1 := Hid.intro_ hq1
          have HQO := Hid.intro_ hqo
          have hki : (k : Int) < (n : Int) := by omega
          have hk0 : (0 : Int) ≤ (k : Int) := by omega
          have hkl : (k : Int) < (n : Int) + 1 := by omega
          have hkl1 : (k : Int) + 1 < (n : Int) + 1 := by omega
          obtain ⟨ok, hok⟩ : ∃ ok, ok = isN q.a q.b q.c q.d v := ⟨_, rfl⟩
          obtain ⟨A1, hA1⟩ : ∃ A1 : Nat, A1 = if ok = true then q.a else 0 := ⟨_, rfl⟩
          obtain ⟨A2, hA2⟩ : ∃ A2 : Nat, A2 = if ok = true then q.b else 0 := ⟨_, rfl⟩
          obtain ⟨A3, hA3⟩ : ∃ A3 : Nat, A3 = if ok = true then q.c else 0 := ⟨_, rfl⟩
          have HIN := Hid.intro_ (show ∀ W, Calls Tryz.prog 81 #[.agg #[.int .u64 q.a, .int .u64 q.b, .int .u64 q.c, .int .u64 q.d], .int .i64 v] W fun e w' => e = .returned (.tuple #[.agg #[.int .u64 A1, .int .u64 A2, .int .u64 A3], .bool ok]) ∧ Keep Nil W w' from fun W => by
            have := isNode_any q.a q.b q.c q.d v hqo.a hqo.b hqo.c W
            rw [← hok] at this
            have e : (if ok = true then ndV q.a q.b q.c else ndV 0 0 0) = .agg #[.int .u64 A1, .int .u64 A2, .int .u64 A3] := by rw [hA1, hA2, hA3]; cases ok <;> rfl
            rw [e] at this
            exact this)
          have hA64 : A1 < 18446744073709551616 := by rw [hA1]; split; exact hqo.a; decide
          have HSP := Hid.intro_ (rsplit_t A1 hA64)
          have HOK := Hid.intro_ hok
          have HA1 := Hid.intro_ hA1
          have HA2 := Hid.intro_ hA2
          have HA3 := Hid.intro_ hA3
          clear hq1 hq2 hqo hok hA1 hA2 hA3
          go_wp2_with fail
          go_cut [8, 9] from 50 to 58 (fun v8 v9 wd => AskedR wr A1 A2 A3 ok v8 v9 wd)
          case first =>
            have e0 := World.new_ne wr _ x0
            have e2 := World.new_ne wr _ p0
            simp only at e0 e2
            go_region_held3 (fun w' => w'.cell? ⟨I, 0, none⟩ = some (.int .i64 v) ∧ w'.cell? ⟨g, o + k * 4, none⟩ = some (.int .u64 q.a) ∧ w'.cell? ⟨g, o + k * 4 + 1, none⟩ = some (.int .u64 q.b) ∧ w'.cell? ⟨g, o + k * 4 + 2, none⟩ = some (.int .u64 q.c) ∧ w'.cell? ⟨g, o + k * 4 + 3, none⟩ = some (.int .u64 q.d))
              (first | exact ⟨x0, p0, p1, p2, p3⟩ | exact hS2.out | go_keep)
              (first
                | (go_at_call 81; refine (HIN.out _).mono ?_; rintro e w3 ⟨rfl, k2⟩
                   have kz := (Keep.refl Nil wr).drew.then_ k2
                   have x0' := cell_keep x0 kz (fun h => h)
                   have p0' := cell_keep p0 kz (fun h => h)
                   have p1' := cell_keep p1 kz (fun h => h)
                   have p2' := cell_keep p2 kz (fun h => h)
                   have p3' := cell_keep p3 kz (fun h => h)
                   have e0' := World.new_ne w3 _ x0'
                   have e2' := World.new_ne w3 _ p0'
                   simp only at e0' e2'
                   have hS2 := Hid.intro_ (And.intro x0' (And.intro p0' (And.intro p1' (And.intro p2' p3'))))
                   have KZ := Hid.intro_ kz
                   have HLE := Hid.intro_ kz.size
                   clear k2 kz)
                | (go_at_call 81; refine (HIN.out _).mono ?_; rintro e w3 ⟨rfl, k2⟩
                   have kz := ((Keep.refl Nil wr).alloc (.cells #[.int .u64 0, .int .u64 0, .int .u64 0] 46)).drew.then_ k2
                   have x0' := cell_keep x0 kz (fun h => h)
                   have p0' := cell_keep p0 kz (fun h => h)
                   have p1' := cell_keep p1 kz (fun h => h)
                   have p2' := cell_keep p2 kz (fun h => h)
                   have p3' := cell_keep p3 kz (fun h => h)
                   have bz := (Blk.new wr 46 #[.int .u64 0, .int .u64 0, .int .u64 0]).drew.keep k2 (fun h => h)
                   have z0 : w3.cell? ⟨wr.heap.size, 0, none⟩ = some (.int .u64 0) := bz.at_ 0
                   have z1 : w3.cell? ⟨wr.heap.size, 1, none⟩ = some (.int .u64 0) := bz.at_ 1
                   have z2 : w3.cell? ⟨wr.heap.size, 2, none⟩ = some (.int .u64 0) := bz.at_ 2
                   have zf0 := bz.fr 0
                   have zf1 := bz.fr 1
                   have zf2 := bz.fr 2
                   have hS2 := Hid.intro_ (And.intro x0' (And.intro p0' (And.intro p1' (And.intro p2' p3'))))
                   have KZ := Hid.intro_ kz
                   have BZ := Hid.intro_ bz
                   clear k2 kz bz))
            all_goals
              go_wp2_with fail
              go_meet
              first
                | exact ⟨w3.heap.size, rfl, rfl, KZ.out.alloc _, HLE.out, Blk.new w3 _ _⟩
                | exact ⟨wr.heap.size, rfl, rfl, ((KZ.out.setCell (p := ⟨wr.heap.size, 0, none⟩) (fun h => absurd h (Nat.lt_irrefl _)) _).setCell (p := ⟨wr.heap.size, 1, none⟩) (fun h => absurd h (Nat.lt_irrefl _)) _).setCell (p := ⟨wr.heap.size, 2, none⟩) (fun h => absurd h (Nat.lt_irrefl _)) _, Nat.le_refl _, ((BZ.out.set_ 0 _).set_ 1 _).set_ 2 _⟩
          case rest =>
            obtain ⟨T, rfl, rfl, kT, hT, bT⟩ := hcut
            obtain ⟨X, rfl⟩ : ∃ X : World, X = wc := ⟨_, rfl⟩
            have HKX := Hid.intro_ kT
            have BT := Hid.intro_ bT
            have HBDX := Hid.intro_ (HBD.out.keep kT (fun h => h))
            have HKWX := Hid.intro_ (show Keep Nil w X from (HKV.out.trans HK2.out (fun b hb e => by have := HWL.out; have := HDE.out; have e : b = D := e; omega)).then_ kT)
            have HZX := Hid.intro_ (HBZ.out.keep kT (fun h => h))
            clear x0 x1 x2 d0 d1 d2 d3 p0 p1 p2 p3 kT bT hT
            obtain ⟨Bq, hBq⟩ : ∃ Bq, Bq = (q.isN v && fitsB true rt (n + 1) k (lastN P) q.n3) := ⟨_, rfl⟩
            have HBQ := Hid.intro_ hBq
            cases ok
            · have HX := Hid.intro_ (show Bq = false by rw [hBq]; unfold R4.isN; rw [← HOK.out]; rfl)
              have HQB := Hid.intro_ (HI.out.bad HQ1.out (by rw [← HBQ.out]; exact HX.out))
              clear hBq HBQ HIN HSP HOK HA1 HA2 HA3 HX
              have zb := HZX.out
              have z0 : X.cell? ⟨w.heap.size, 0, none⟩ = some (.int .i64 0) := zb.at_ 0
              have z1 : X.cell? ⟨w.heap.size, 1, none⟩ = some (.int .u64 0) := zb.at_ 1
              have z2 : X.cell? ⟨w.heap.size, 2, none⟩ = some (.int .i64 0) := zb.at_ 2
              have z3 : X.cell? ⟨w.heap.size, 3, none⟩ = some (.slice none 0 0) := zb.at_ 3
              have g0 := zb.fr 0
              have g1 := zb.fr 1
              have g2 := zb.fr 2
              have g3 := zb.fr 3
              have HZB := Hid.intro_ zb
              have HNO := Hid.intro_ (show ofL L = none by rw [HOL.out, HQB.out]; exact if_neg (fun h => by cases h.1))
              clear zb
              go_wp2_with fail
              generalize hX : (((X.setCell ⟨w.heap.size, 0, none⟩ (.int .i64 0)).setCell ⟨w.heap.size, 1, none⟩ (.int .u64 0)).setCell ⟨w.heap.size, 2, none⟩ (.int .i64 0)).setCell ⟨w.heap.size, 3, none⟩ (.slice none 0 0) = Z at *
              obtain ⟨y0, y1, y2, y3, hk⟩ := res4 HZB.out HKWX.out _ _ _ _ Z hX.symm
              refine bodyPost_ret (v := .tuple #[.agg #[.int .i64 0, .int .u64 0, .int .i64 0, .slice none 0 0], .bool false]) (by simp [results, Tryz.results87, go_sem, y0, y1, y2, y3]) rfl (OfPost.bad HNO.out hk)
            · have hA1 : A1 = q.a := by rw [HA1.out]; rfl
              have hA2 : A2 = q.b := by rw [HA2.out]; rfl
              have hA3 : A3 = q.c := by rw [HA3.out]; rfl
              subst hA1 hA2 hA3
              have hin : sIn q.a = true := isN_in (by rw [← HOK.out] : isN q.a q.b q.c q.d v = true)
              have HX0 := Hid.intro_ (show Bq = (if k = 0 then sI q.a == 0 else flw q.a q.b q.c (lastN P).self (lastN P).low (lastN P).high) by rw [hBq, fitsB_in hlt]; unfold R4.isN; rw [← HOK.out, Bool.true_and]; rfl)
              have HINN := Hid.intro_ hin
              clear hBq HIN HOK HA1 HA2 HA3 hin
              have t0 : X.cell? ⟨T, 0, none⟩ = some (.int .u64 q.a) := BT.out.at_ 0
              by_cases hk00 : k = 0
              · have HX1 := Hid.intro_ (show Bq = (sI q.a == 0) by rw [HX0.out, if_pos hk00])
                subst hk00
                obtain ⟨id, hid⟩ : ∃ id, id = sI q.a := ⟨_, rfl⟩
                rw [← hid] at HSP HX1
                clear HX0 HINN hid
                by_cases hc : id = 0
                · have HBT := Hid.intro_ (show Bq = true by rw [HX1.out, hc]; rfl)
                  have qc2 : (id != 0) = false := by simp [hc]
                  rw [HBT.out] at HBQ
                  clear HX1 HBT hc
                  go_wp2_with (go_at_call 82; refine (HSP.out _).mono ?_; rintro e w' ⟨rfl, hw⟩; obtain rfl := hw.symm)
                  clear t0
                  go_cut [90] from 78 to 90 (fun v90 wd => v90 = .bool false ∧ Keep Nil X wd)
                  case first =>
                    go_quiet (fail)
                    go_wp2_with fail
                    go_meet
                    exact ⟨rfl, (Keep.refl Nil X).drewN _⟩
                  case rest =>
                    obtain ⟨rfl, kX2⟩ := hcut
                    obtain ⟨V2, rfl⟩ : ∃ V2 : World, V2 = wc := ⟨_, rfl⟩
                    have KX2 := Hid.intro_ kX2
                    clear kX2
                    have HI2 := Hid.intro_ (HI.out.good HQ1.out HBQ.out.symm)
                    have hkw := KX2.out
                    have tV := BT.out.keep hkw (fun h => h)
                    have t0 : V2.cell? ⟨T, 0, none⟩ = some (.int .u64 q.a) := tV.at_ 0
                    have t1 : V2.cell? ⟨T, 1, none⟩ = some (.int .u64 q.b) := tV.at_ 1
                    have t2 : V2.cell? ⟨T, 2, none⟩ = some (.int .u64 q.c) := tV.at_ 2
                    have hdw := HBDX.out.keep hkw (fun h => h)
                    have d3 : V2.cell? ⟨D, 3, none⟩ = some (.slice A9 P.length c9) := hdw.at_ 3
                    have df3 := hdw.fr 3
                    have dlt := hdw.lt
                    have hPl := HI.out.len
                    obtain ⟨N, hN⟩ : ∃ N, N = P.length := ⟨_, rfl⟩
                    rw [← hN] at HO d3
                    try rw [← hN]
                    have HNN := Hid.intro_ hN
                    have hN40 : N ≤ 1099511627776 := by omega
                    have HKW := Hid.intro_ (HKX.out.then_ hkw)
                    have HDW := Hid.intro_ (show Blk V2 D 86 #[.int .i64 v, .int .u64 rt, .int .i64 n, .slice A9 N c9] by rw [hN]; exact hdw)
                    have hVs : w2.heap.size + 1 + 1 ≤ V2.heap.size := by have := (HK2.out.trans HKW.out (fun _ _ h => h.elim)).size; have := HVS.out; omega
                    clear hkw tV hdw hN hPl
                    go_wp2_with (at_builtin; (refine wpList_append_own_at _ rfl (.tmp 93) (.tmp 95) 79 rfl (w2.heap.size + 1 + 1) 46 i1 (.agg #[.int .u64 0, .int .u64 0, .int .u64 0]) 3 24 Tryz.underlying79 hi1 hy0 hy1 hy2 rfl (by decide) (.slice A9 N c9) N (ndCells P) (by simp [Act.eval]) (own_keep HO.out (HKW.out.alloc _) (fun g _ h => h)) ⟨V2.heap.size, 0, none⟩ 1 1 [.int .u64 q.a, .int .u64 q.b, .int .u64 q.c] (by simp [Act.eval]) rfl (news_new rfl) (by simp [Value.oneCell']) (by unfold maxLen; omega) (by omega) (by simp; omega) ?_; intro s1 w4 ho4 k4 _ hs1; obtain ⟨B1, cB1, hB1⟩ := own_form ho4; subst hB1; have k4' := Keep.of_grown k4; have hDn : ¬ (Value.slice A9 N c9).ownBlock = some D := fun e => (by have := own_base HO.out e; have := HDE.out; omega); have hd4 := (HDW.out.alloc _).keep k4' hDn; have c3 : w4.cell? ⟨D, 3, none⟩ = some (.slice A9 N c9) := hd4.at_ 3; have cf3 := hd4.fr 3; have HD4 := Hid.intro_ hd4; have HOW4 := Hid.intro_ ho4; have HK4 := Hid.intro_ k4'; clear k4 k4' hDn hd4 ho4))
                    have hDb : ∀ g, (Value.slice B1 (N + 1) cB1).ownBlock = some g → ¬ g = D := fun g hg e => by have := own_base HOW4.out hg; have := HDE.out; omega
                    have hfin : Hid ((w4.setCell ⟨D, 3, none⟩ (.slice B1 (N + 1) cB1)).ownsRow (w2.heap.size + 1 + 1) 46 3 (.slice B1 (N + 1) cB1) (P ++ [q.n3]).length (ndCells (P ++ [q.n3]))) := Hid.intro_ (by
                      rw [ndCells_app, List.length_append, ← HNN.out]
                      exact own_keep HOW4.out ((Keep.refl (fun z => z = D) w4).setCell (p := ⟨D, 3, none⟩) (fun _ => rfl) (.slice B1 (N + 1) cB1)) (fun g hg e => hDb g hg e))
                    have hdf : Hid (Blk (w4.setCell ⟨D, 3, none⟩ (.slice B1 (N + 1) cB1)) D 86 #[.int .i64 v, .int .u64 rt, .int .i64 n, .slice B1 (N + 1) cB1]) := Hid.intro_ (HD4.out.set_ 3 _)
                    have kfin : Hid (Keep (fun z => z = D) V (w4.setCell ⟨D, 3, none⟩ (.slice B1 (N + 1) cB1))) := Hid.intro_ (((HK2.out.trans (HKW.out.alloc _) (fun _ _ h => h.elim)).trans HK4.out (fun b hb e => by have := own_base HO.out e; have := HVS.out; omega)).setCell (p := ⟨D, 3, none⟩) (fun _ => rfl) (.slice B1 (N + 1) cB1))
                    go_roundw
                    case rel => exact ⟨0 + 1, P ++ [q.n3], _, by omega, by go_num, hfin, hdf, HI2, kfin⟩
                    case measure => simp [intOf]; omega
                · have HBT := Hid.intro_ (show Bq = false by rw [HX1.out]; simpa using hc)
                  have qc2 : (id != 0) = true := by simpa using hc
                  have HQB := Hid.intro_ (HI.out.bad HQ1.out (by rw [← HBQ.out]; exact HBT.out))
                  clear HX1 HBT hc
                  go_upto_region 14 with (go_at_call 82; refine (HSP.out _).mono ?_; rintro e w' ⟨rfl, hw⟩; obtain rfl := hw.symm)
                  have zb := HZX.out
                  have z0 : X.cell? ⟨w.heap.size, 0, none⟩ = some (.int .i64 0) := zb.at_ 0
                  have z1 : X.cell? ⟨w.heap.size, 1, none⟩ = some (.int .u64 0) := zb.at_ 1
                  have z2 : X.cell? ⟨w.heap.size, 2, none⟩ = some (.int .i64 0) := zb.at_ 2
                  have z3 : X.cell? ⟨w.heap.size, 3, none⟩ = some (.slice none 0 0) := zb.at_ 3
                  have g0 := zb.fr 0
                  have g1 := zb.fr 1
                  have g2 := zb.fr 2
                  have g3 := zb.fr 3
                  have HZB := Hid.intro_ zb
                  have HNO := Hid.intro_ (show ofL L = none by rw [HOL.out, HQB.out]; exact if_neg (fun h => by cases h.1))
                  clear zb
                  go_wp2_with fail
                  generalize hX : (((X.setCell ⟨w.heap.size, 0, none⟩ (.int .i64 0)).setCell ⟨w.heap.size, 1, none⟩ (.int .u64 0)).setCell ⟨w.heap.size, 2, none⟩ (.int .i64 0)).setCell ⟨w.heap.size, 3, none⟩ (.slice none 0 0) = Z at *
                  obtain ⟨y0, y1, y2, y3, hk⟩ := res4 HZB.out HKWX.out _ _ _ _ Z hX.symm
                  refine bodyPost_ret (v := .tuple #[.agg #[.int .i64 0, .int .u64 0, .int .i64 0, .slice none 0 0], .bool false]) (by simp [results, Tryz.results87, go_sem, y0, y1, y2, y3]) rfl (OfPost.bad HNO.out hk)
              · obtain ⟨ln, hln, hlast, hmem⟩ := lastN_at HI.out.len (show 0 < k by omega)
                have hlin := HI.out.inn ln hmem
                obtain ⟨g9, cap9, hav2, hcap9, hg9, hrow9⟩ := own_some (by rw [HI.out.len]; omega) HO.out
                injection hav2 with hav2 hav3 hav4
                subst hav2 hav4
                obtain ⟨n9a, n9b, n9c⟩ := ndCells_at P (k - 1) ln hln
                have hkx : ∀ {y : Addr} {u : Value}, wr.cell? y = some u → X.cell? y = some u := fun h => cell_keep h HKX.out (fun h => h)
                have y0 : X.cell? ⟨g9, (k - 1) * 3, none⟩ = some (.int .u64 ln.self) := by have := hrow9 _ _ n9a; rw [add_at, Nat.zero_add] at this; exact hkx this
                have y1 : X.cell? ⟨g9, (k - 1) * 3 + 1, none⟩ = some (.int .u64 ln.low) := by have := hrow9 _ _ n9b; rw [add_at, Nat.zero_add] at this; exact hkx this
                have y2 : X.cell? ⟨g9, (k - 1) * 3 + 2, none⟩ = some (.int .u64 ln.high) := by have := hrow9 _ _ n9c; rw [add_at, Nat.zero_add] at this; exact hkx this
                obtain ⟨F, hF⟩ : ∃ F, F = flw q.a q.b q.c ln.self ln.low ln.high := ⟨_, rfl⟩
                have HX1 := Hid.intro_ (show Bq = F by rw [HX0.out, if_neg hk00, hlast, hF])
                have HCT := Hid.intro_ (fun W => rfollows_any q.a q.b q.c ln.self ln.low ln.high (by have := (sIn_lv HINN.out).2.1; omega) (by have := (sIn_lv hlin).2.1; omega) W)
                rw [← hF] at HCT
                unfold ndV at HCT
                obtain ⟨j, hj⟩ : ∃ j, j = k - 1 := ⟨_, rfl⟩
                rw [← hj] at y0 y1 y2
                have kw1 : IntKind.i64.wrap ((k : Int) - 1) = (j : Int) := by rw [show (k : Int) - 1 = (j : Int) by omega]; exact IntWalk.i64_in _ (by omega)
                have kw2 : wrap64 ((k : Int) - 1) = (j : Int) := by rw [show (k : Int) - 1 = (j : Int) by omega]; exact wrap_low _ (by omega)
                have qk : ((k : Int) == 0) = false := by simp; omega
                have qk1 : (0 : Int) < (k : Int) := by omega
                have qkn : 0 < k := by omega
                have j0 : (0 : Int) ≤ (j : Int) := by omega
                have j1 : (j : Int) < (P.length : Int) := by have := HI.out.len; omega
                have j1n : j < P.length := by have := HI.out.len; omega
                have t1 : X.cell? ⟨T, 1, none⟩ = some (.int .u64 q.b) := BT.out.at_ 1
                have t2 : X.cell? ⟨T, 2, none⟩ = some (.int .u64 q.c) := BT.out.at_ 2
                have d3 : X.cell? ⟨D, 3, none⟩ = some (.slice (some ⟨g9, 0, none⟩) P.length c9) := HBDX.out.at_ 3
                clear hrow9 n9a n9b n9c hF HX0 HINN hln hmem hlin hlast hk00 hj hcap9 hg9 hkx
                go_wp2_with (go_at_call 82; refine (HSP.out _).mono ?_; rintro e w' ⟨rfl, hw⟩; obtain rfl := hw.symm)
                go_cut [90] from 78 to 90 (fun v90 wd => v90 = .bool (!F) ∧ Keep Nil X wd)
                case first =>
                  refine wp_region_held_drew (S := (fun w' => w'.cell? ⟨D, 3, none⟩ = some (.slice (some ⟨g9, 0, none⟩) P.length c9) ∧ w'.cell? ⟨T, 0, none⟩ = some (.int .u64 q.a) ∧ w'.cell? ⟨T, 1, none⟩ = some (.int .u64 q.b) ∧ w'.cell? ⟨T, 2, none⟩ = some (.int .u64 q.c) ∧ w'.cell? ⟨g9, j * 3, none⟩ = some (.int .u64 ln.self) ∧ w'.cell? ⟨g9, j * 3 + 1, none⟩ = some (.int .u64 ln.low) ∧ w'.cell? ⟨g9, j * 3 + 2, none⟩ = some (.int .u64 ln.high))) (by kernel_rfl) ?_ (fun hHeld => ?_)
                  · exact ⟨d3, t0, t1, t2, y0, y1, y2⟩
                  refine tk8 (i := 0) (v := ?_) (Or.inl ⟨by kernel_rfl, ?_⟩) ?_; rotate_left; (intro w k; (try dsimp only at k); go_simp; try with_reducible rfl); (try simp only [Act.put, put9]); refine tk8 (i := 1) (v := ?_) (Or.inl ⟨by kernel_rfl, ?_⟩) ?_; rotate_left; (intro w k; (try dsimp only at k); go_simp; try with_reducible rfl); (try simp only [Act.put, put9]); refine tk8 (i := 2) (v := ?_) (Or.inl ⟨by kernel_rfl, ?_⟩) ?_; rotate_left; (intro w k; (try dsimp only at k); go_simp; try with_reducible rfl); (try simp only [Act.put, put9]); refine tk8 (i := 3) (v := ?_) (Or.inl ⟨by kernel_rfl, ?_⟩) ?_; rotate_left; (intro w k; (try dsimp only at k); go_simp; try with_reducible rfl); (try simp only [Act.put, put9]); refine tk8 (i := 4) (v := ?_) (Or.inl ⟨by kernel_rfl, ?_⟩) ?_; rotate_left; (intro w k; (try dsimp only at k); go_simp; try with_reducible rfl); (try simp only [Act.put, put9]); refine tk8 (i := 5) (v := ?_) (Or.inl ⟨by kernel_rfl, ?_⟩) ?_; rotate_left; (intro w k; (try dsimp only at k); go_simp; try with_reducible rfl); (try simp only [Act.put, put9]); refine tk8 (i := 6) (v := ?_) (Or.inl ⟨by kernel_rfl, ?_⟩) ?_; rotate_left; (intro w k; (try dsimp only at k); go_simp; try with_reducible rfl); (try simp only [Act.put, put9]); refine tk8 (i := 7) (v := ?_) (Or.inl ⟨by kernel_rfl, ?_⟩) ?_; rotate_left; (intro w k; (try dsimp only at k); go_simp; try with_reducible rfl); (try simp only [Act.put, put9]); refine tk8 (i := 8) (v := ?_) (Or.inl ⟨by kernel_rfl, ?_⟩) ?_; rotate_left; (intro w k; (try dsimp only at k); go_simp; try with_reducible rfl); (try simp only [Act.put, put9]); refine tk8 (i := 9) (v := ?_) (Or.inl ⟨by kernel_rfl, ?_⟩) ?_; rotate_left; (intro w k; (try dsimp only at k); go_simp; try with_reducible rfl); try simp only [Act.put, put9]
                  refine wpAnyH_ready (rs := [10]) (by kernel_rfl) (by simp) ?_
                  refine AllReadyH.cons (by simp only [get9]; rfl) (fun K hK => ?_) AllReadyH.nil
                  go_simp
                  go_at_call 83
                  refine (HCT.out _).mono ?_
                  rintro e w5 ⟨rfl, hk5⟩
                  have kz := (Keep.refl Nil X).drew.then_ hk5
                  have KZ := Hid.intro_ kz
                  go_wp2_with fail
                  refine hK.out _ _ ?_ (fun hHeld => ?_)
                  · exact ⟨cell_keep d3 kz (fun h => h), cell_keep t0 kz (fun h => h), cell_keep t1 kz (fun h => h), cell_keep t2 kz (fun h => h), cell_keep y0 kz (fun h => h), cell_keep y1 kz (fun h => h), cell_keep y2 kz (fun h => h)⟩
                  clear hK K
                  (try simp only [Act.put, put9]); refine tk8 (i := 11) (v := ?_) (Or.inl ⟨by kernel_rfl, ?_⟩) ?_; rotate_left; (intro w k; (try dsimp only at k); go_simp; try with_reducible rfl); (try simp only [Act.put, put9]); refine tk8 (i := 12) (v := ?_) (Or.inl ⟨by kernel_rfl, ?_⟩) ?_; rotate_left; (intro w k; (try dsimp only at k); go_simp; try with_reducible rfl); try simp only [Act.put, put9]
                  refine wpAnyH_done (by kernel_rfl) ?_ _
                  go_wp2_with fail
                  go_meet
                  exact ⟨rfl, KZ.out⟩
                case rest =>
                  obtain ⟨rfl, kX2⟩ := hcut
                  obtain ⟨V2, rfl⟩ : ∃ V2 : World, V2 = wc := ⟨_, rfl⟩
                  have KX2 := Hid.intro_ kX2
                  clear kX2 t0 t1 t2 d3 y0 y1 y2
                  cases F
                  · have HQB := Hid.intro_ (HI.out.bad HQ1.out (by rw [← HBQ.out]; exact HX1.out))
                    have zb := HZX.out.keep KX2.out (fun h => h)
                    have z0 : V2.cell? ⟨w.heap.size, 0, none⟩ = some (.int .i64 0) := zb.at_ 0
                    have z1 : V2.cell? ⟨w.heap.size, 1, none⟩ = some (.int .u64 0) := zb.at_ 1
                    have z2 : V2.cell? ⟨w.heap.size, 2, none⟩ = some (.int .i64 0) := zb.at_ 2
                    have z3 : V2.cell? ⟨w.heap.size, 3, none⟩ = some (.slice none 0 0) := zb.at_ 3
                    have g0 := zb.fr 0
                    have g1 := zb.fr 1
                    have g2 := zb.fr 2
                    have g3 := zb.fr 3
                    have HZB := Hid.intro_ zb
                    have HNO := Hid.intro_ (show ofL L = none by rw [HOL.out, HQB.out]; exact if_neg (fun h => by cases h.1))
                    clear zb
                    go_wp2_with fail
                    generalize hX : (((V2.setCell ⟨w.heap.size, 0, none⟩ (.int .i64 0)).setCell ⟨w.heap.size, 1, none⟩ (.int .u64 0)).setCell ⟨w.heap.size, 2, none⟩ (.int .i64 0)).setCell ⟨w.heap.size, 3, none⟩ (.slice none 0 0) = Z at *
                    obtain ⟨y0, y1, y2, y3, hk⟩ := res4 HZB.out (HKWX.out.then_ KX2.out) _ _ _ _ Z hX.symm
                    refine bodyPost_ret (v := .tuple #[.agg #[.int .i64 0, .int .u64 0, .int .i64 0, .slice none 0 0], .bool false]) (by simp [results, Tryz.results87, go_sem, y0, y1, y2, y3]) rfl (OfPost.bad HNO.out hk)
                  · have hbt := HX1.out
                    rw [hbt] at HBQ
                    clear hbt
                    have HI2 := Hid.intro_ (HI.out.good HQ1.out HBQ.out.symm)
                    have hkw := KX2.out
                    have tV := BT.out.keep hkw (fun h => h)
                    have t0 : V2.cell? ⟨T, 0, none⟩ = some (.int .u64 q.a) := tV.at_ 0
                    have t1 : V2.cell? ⟨T, 1, none⟩ = some (.int .u64 q.b) := tV.at_ 1
                    have t2 : V2.cell? ⟨T, 2, none⟩ = some (.int .u64 q.c) := tV.at_ 2
                    have hdw := HBDX.out.keep hkw (fun h => h)
                    have d3 : V2.cell? ⟨D, 3, none⟩ = some (.slice (some ⟨g9, 0, none⟩) P.length c9) := hdw.at_ 3
                    have df3 := hdw.fr 3
                    have dlt := hdw.lt
                    have hPl := HI.out.len
                    obtain ⟨N, hN⟩ : ∃ N, N = P.length := ⟨_, rfl⟩
                    rw [← hN] at HO d3
                    try rw [← hN]
                    have HNN := Hid.intro_ hN
                    have hN40 : N ≤ 1099511627776 := by omega
                    have HKW := Hid.intro_ (HKX.out.then_ hkw)
                    have HDW := Hid.intro_ (show Blk V2 D 86 #[.int .i64 v, .int .u64 rt, .int .i64 n, .slice (some ⟨g9, 0, none⟩) N c9] by rw [hN]; exact hdw)
                    have hVs : w2.heap.size + 1 + 1 ≤ V2.heap.size := by have := (HK2.out.trans HKW.out (fun _ _ h => h.elim)).size; have := HVS.out; omega
                    clear hkw tV hdw hN hPl
                    go_wp2_with (at_builtin; (refine wpList_append_own_at _ rfl (.tmp 93) (.tmp 95) 79 rfl (w2.heap.size + 1 + 1) 46 i1 (.agg #[.int .u64 0, .int .u64 0, .int .u64 0]) 3 24 Tryz.underlying79 hi1 hy0 hy1 hy2 rfl (by decide) (.slice (some ⟨g9, 0, none⟩) N c9) N (ndCells P) (by simp [Act.eval]) (own_keep HO.out (HKW.out.alloc _) (fun g _ h => h)) ⟨V2.heap.size, 0, none⟩ 1 1 [.int .u64 q.a, .int .u64 q.b, .int .u64 q.c] (by simp [Act.eval]) rfl (news_new rfl) (by simp [Value.oneCell']) (by unfold maxLen; omega) (by omega) (by simp; omega) ?_; intro s1 w4 ho4 k4 _ hs1; obtain ⟨B1, cB1, hB1⟩ := own_form ho4; subst hB1; have k4' := Keep.of_grown k4; have hDn : ¬ (Value.slice (some ⟨g9, 0, none⟩) N c9).ownBlock = some D := fun e => (by have := own_base HO.out e; have := HDE.out; omega); have hd4 := (HDW.out.alloc _).keep k4' hDn; have c3 : w4.cell? ⟨D, 3, none⟩ = some (.slice (some ⟨g9, 0, none⟩) N c9) := hd4.at_ 3; have cf3 := hd4.fr 3; have HD4 := Hid.intro_ hd4; have HOW4 := Hid.intro_ ho4; have HK4 := Hid.intro_ k4'; clear k4 k4' hDn hd4 ho4))
                    have hDb : ∀ g, (Value.slice B1 (N + 1) cB1).ownBlock = some g → ¬ g = D := fun g hg e => by have := own_base HOW4.out hg; have := HDE.out; omega
                    have hfin : Hid ((w4.setCell ⟨D, 3, none⟩ (.slice B1 (N + 1) cB1)).ownsRow (w2.heap.size + 1 + 1) 46 3 (.slice B1 (N + 1) cB1) (P ++ [q.n3]).length (ndCells (P ++ [q.n3]))) := Hid.intro_ (by
                      rw [ndCells_app, List.length_append, ← HNN.out]
                      exact own_keep HOW4.out ((Keep.refl (fun z => z = D) w4).setCell (p := ⟨D, 3, none⟩) (fun _ => rfl) (.slice B1 (N + 1) cB1)) (fun g hg e => hDb g hg e))
                    have hdf : Hid (Blk (w4.setCell ⟨D, 3, none⟩ (.slice B1 (N + 1) cB1)) D 86 #[.int .i64 v, .int .u64 rt, .int .i64 n, .slice B1 (N + 1) cB1]) := Hid.intro_ (HD4.out.set_ 3 _)
                    have kfin : Hid (Keep (fun z => z = D) V (w4.setCell ⟨D, 3, none⟩ (.slice B1 (N + 1) cB1))) := Hid.intro_ (((HK2.out.trans (HKW.out.alloc _) (fun _ _ h => h.elim)).trans HK4.out (fun b hb e => by have := own_base HO.out e; have := HVS.out; omega)).setCell (p := ⟨D, 3, none⟩) (fun _ => rfl) (.slice B1 (N + 1) cB1))
                    go_roundw
                    case rel => exact ⟨k + 1, P ++ [q.n3], _, by omega, by go_num, hfin, hdf, HI2, kfin⟩
                    case measure => simp [intOf]; omega
        · obtain rfl : k = n := by omega
          have HQ := Hid.intro_ (HI.out.ends (by rw [HRL.out]; exact Nat.le_refl _))
          have HKE := Hid.intro_ (show Keep Nil w wr from HKV.out.trans HK2.out (fun b hb e => by have := HWL.out; have := HDE.out; have e : b = D := e; omega))
          have HOE := Hid.intro_ (show ofL L = if k = 0 ∨ (lastN P).self = rt then some ⟨v, rt, k, P⟩ else none by rw [HOL.out, HQ.out]; simp)
          go_wp2_with fail
          have hPl := HI.out.len
          by_cases hk0 : k = 0
          · subst hk0
            have HYES := Hid.intro_ (show ofL L = some ⟨v, rt, 0, P⟩ by rw [HOE.out, if_pos (.inl rfl)])
            clear hPl
            go_cut [113] from 98 to 113 (fun v113 wd => v113 = .bool false ∧ Keep Nil wr wd)
            case first =>
              go_quiet (fail)
              go_wp2_with fail
              go_meet
              exact ⟨rfl, (Keep.refl Nil wr).drewN _⟩
            case rest =>
              obtain ⟨rfl, kX2⟩ := hcut
              obtain ⟨V2, rfl⟩ : ∃ V2 : World, V2 = wc := ⟨_, rfl⟩
              have KX2 := Hid.intro_ kX2
              clear kX2 x0 x1 x2 d0 d1 d2 d3
              have zb := HBZ.out.keep KX2.out (fun h => h)
              have z0 : V2.cell? ⟨w.heap.size, 0, none⟩ = some (.int .i64 0) := zb.at_ 0
              have z1 : V2.cell? ⟨w.heap.size, 1, none⟩ = some (.int .u64 0) := zb.at_ 1
              have z2 : V2.cell? ⟨w.heap.size, 2, none⟩ = some (.int .i64 0) := zb.at_ 2
              have z3 : V2.cell? ⟨w.heap.size, 3, none⟩ = some (.slice none 0 0) := zb.at_ 3
              have g0 := zb.fr 0
              have g1 := zb.fr 1
              have g2 := zb.fr 2
              have g3 := zb.fr 3
              have db := HBD.out.keep KX2.out (fun h => h)
              have d0 : V2.cell? ⟨D, 0, none⟩ = some (.int .i64 v) := db.at_ 0
              have d1 : V2.cell? ⟨D, 1, none⟩ = some (.int .u64 rt) := db.at_ 1
              have d2 : V2.cell? ⟨D, 2, none⟩ = some (.int .i64 0) := db.at_ 2
              have d3 : V2.cell? ⟨D, 3, none⟩ = some (.slice A9 P.length c9) := db.at_ 3
              have HZB := Hid.intro_ zb
              have HKZ := Hid.intro_ (HKE.out.then_ KX2.out)
              have HOV := Hid.intro_ (own_keep HO.out KX2.out (fun _ _ h => h))
              clear zb db
              go_wp2_with fail
              generalize hX : (((V2.setCell ⟨w.heap.size, 0, none⟩ (.int .i64 v)).setCell ⟨w.heap.size, 1, none⟩ (.int .u64 rt)).setCell ⟨w.heap.size, 2, none⟩ (.int .i64 0)).setCell ⟨w.heap.size, 3, none⟩ (.slice A9 P.length c9) = Z at *
              obtain ⟨y0, y1, y2, y3, hk⟩ := res4 HZB.out HKZ.out _ _ _ _ Z hX.symm
              have kp := ((((Keep.refl (fun z => z = w.heap.size) V2).setCell (p := ⟨w.heap.size, 0, none⟩) (fun _ => rfl) (.int .i64 v)).setCell (p := ⟨w.heap.size, 1, none⟩) (fun _ => rfl) (.int .u64 rt)).setCell (p := ⟨w.heap.size, 2, none⟩) (fun _ => rfl) (.int .i64 0)).setCell (p := ⟨w.heap.size, 3, none⟩) (fun _ => rfl) (.slice A9 P.length c9)
              rw [hX] at kp
              refine bodyPost_ret (v := .tuple #[.agg #[.int .i64 v, .int .u64 rt, .int .i64 0, .slice A9 P.length c9], .bool true]) (by simp [results, Tryz.results87, go_sem, y0, y1, y2, y3]) rfl (OfPost.good HYES.out hk (by have := HWL.out; omega) (own_keep HOV.out kp (fun g' hg e => by have := own_base HOV.out hg; have := HWL.out; have e : g' = w.heap.size := e; omega)))
          · obtain ⟨ln, hln, hlast, hmem⟩ := lastN_at HI.out.len (show 0 < k by omega)
            obtain ⟨g9, cap9, hav2, hcap9, hg9, hrow9⟩ := own_some (by rw [HI.out.len]; omega) HO.out
            injection hav2 with hav2 hav3 hav4
            subst hav2 hav4
            obtain ⟨n9a, n9b, n9c⟩ := ndCells_at P (k - 1) ln hln
            have y0 : wr.cell? ⟨g9, (k - 1) * 3, none⟩ = some (.int .u64 ln.self) := by have := hrow9 _ _ n9a; rw [add_at, Nat.zero_add] at this; exact this
            obtain ⟨j, hj⟩ : ∃ j, j = k - 1 := ⟨_, rfl⟩
            rw [← hj] at y0
            have kw1 : IntKind.i64.wrap ((k : Int) - 1) = (j : Int) := by rw [show (k : Int) - 1 = (j : Int) by omega]; exact IntWalk.i64_in _ (by omega)
            have kw2 : wrap64 ((k : Int) - 1) = (j : Int) := by rw [show (k : Int) - 1 = (j : Int) by omega]; exact wrap_low _ (by omega)
            have qk1 : (0 : Int) < (k : Int) := by omega
            have qkn : 0 < k := by omega
            have j0 : (0 : Int) ≤ (j : Int) := by omega
            have j1 : (j : Int) < (P.length : Int) := by omega
            have j1n : j < P.length := by omega
            have HOE2 := Hid.intro_ (show ofL L = if ln.self = rt then some ⟨v, rt, k, P⟩ else none by
              rw [HOE.out, hlast]
              by_cases hs : ln.self = rt
              · rw [if_pos (.inr hs), if_pos hs]
              · rw [if_neg (by intro h; rcases h with h | h; exact hk0 h; exact hs h), if_neg hs])
            have HOE3 := Hid.intro_ (show ¬ ln.self = rt → ofL L = none by intro hs; rw [HOE2.out, if_neg hs])
            obtain ⟨ls, hls⟩ : ∃ ls, ls = ln.self := ⟨_, rfl⟩
            rw [← hls] at y0 HOE2 HOE3
            have qd : Hid (((ls : Int) != (rt : Int)) = !(decide (ls = rt))) := by
              refine Hid.intro_ ?_
              by_cases h : ls = rt
              · simp [h]
              · have h2 : ¬ (ls : Int) = (rt : Int) := by omega
                simp [h, h2]
            clear hrow9 n9a n9b n9c hln hmem hlast hj hcap9 hg9 hk0 hls hPl
            go_cut [113] from 98 to 113 (fun v113 wd => v113 = .bool (!(decide (ls = rt))) ∧ Keep Nil wr wd)
            case first =>
              go_quiet (fail)
              go_wp2_with fail
              go_meet
              exact ⟨by rw [← qd.out], (Keep.refl Nil wr).drewN _⟩
            case rest =>
              obtain ⟨rfl, kX2⟩ := hcut
              obtain ⟨V2, rfl⟩ : ∃ V2 : World, V2 = wc := ⟨_, rfl⟩
              have KX2 := Hid.intro_ kX2
              clear kX2 x0 x1 x2 d0 d1 d2 d3 y0
              by_cases hs : ls = rt
              · have HYES := Hid.intro_ (show ofL L = some ⟨v, rt, k, P⟩ by rw [HOE2.out, if_pos hs])
                have qf : (!(decide (ls = rt))) = false := by rw [decide_eq_true hs]; rfl
                rw [qf]
                clear qf hs
                have zb := HBZ.out.keep KX2.out (fun h => h)
                have z0 : V2.cell? ⟨w.heap.size, 0, none⟩ = some (.int .i64 0) := zb.at_ 0
                have z1 : V2.cell? ⟨w.heap.size, 1, none⟩ = some (.int .u64 0) := zb.at_ 1
                have z2 : V2.cell? ⟨w.heap.size, 2, none⟩ = some (.int .i64 0) := zb.at_ 2
                have z3 : V2.cell? ⟨w.heap.size, 3, none⟩ = some (.slice none 0 0) := zb.at_ 3
                have g0 := zb.fr 0
                have g1 := zb.fr 1
                have g2 := zb.fr 2
                have g3 := zb.fr 3
                have db := HBD.out.keep KX2.out (fun h => h)
                have d0 : V2.cell? ⟨D, 0, none⟩ = some (.int .i64 v) := db.at_ 0
                have d1 : V2.cell? ⟨D, 1, none⟩ = some (.int .u64 rt) := db.at_ 1
                have d2 : V2.cell? ⟨D, 2, none⟩ = some (.int .i64 k) := db.at_ 2
                have d3 : V2.cell? ⟨D, 3, none⟩ = some (.slice (some ⟨g9, 0, none⟩) P.length c9) := db.at_ 3
                have HZB := Hid.intro_ zb
                have HKZ := Hid.intro_ (HKE.out.then_ KX2.out)
                have HOV := Hid.intro_ (own_keep HO.out KX2.out (fun _ _ h => h))
                clear zb db
                go_wp2_with fail
                generalize hX : (((V2.setCell ⟨w.heap.size, 0, none⟩ (.int .i64 v)).setCell ⟨w.heap.size, 1, none⟩ (.int .u64 rt)).setCell ⟨w.heap.size, 2, none⟩ (.int .i64 k)).setCell ⟨w.heap.size, 3, none⟩ (.slice (some ⟨g9, 0, none⟩) P.length c9) = Z at *
                obtain ⟨y0, y1, y2, y3, hk⟩ := res4 HZB.out HKZ.out _ _ _ _ Z hX.symm
                have kp := ((((Keep.refl (fun z => z = w.heap.size) V2).setCell (p := ⟨w.heap.size, 0, none⟩) (fun _ => rfl) (.int .i64 v)).setCell (p := ⟨w.heap.size, 1, none⟩) (fun _ => rfl) (.int .u64 rt)).setCell (p := ⟨w.heap.size, 2, none⟩) (fun _ => rfl) (.int .i64 k)).setCell (p := ⟨w.heap.size, 3, none⟩) (fun _ => rfl) (.slice (some ⟨g9, 0, none⟩) P.length c9)
                rw [hX] at kp
                refine bodyPost_ret (v := .tuple #[.agg #[.int .i64 v, .int .u64 rt, .int .i64 k, .slice (some ⟨g9, 0, none⟩) P.length c9], .bool true]) (by simp [results, Tryz.results87, go_sem, y0, y1, y2, y3]) rfl (OfPost.good HYES.out hk (by have := HWL.out; omega) (own_keep HOV.out kp (fun g' hg e => by have := own_base HOV.out hg; have := HWL.out; have e : g' = w.heap.size := e; omega)))
              · have HNO1 := Hid.intro_ (HOE3.out hs)
                have qf : (!(decide (ls = rt))) = true := by rw [decide_eq_false hs]; rfl
                rw [qf]
                clear qf hs
                have zb := HBZ.out.keep KX2.out (fun h => h)
                have z0 : V2.cell? ⟨w.heap.size, 0, none⟩ = some (.int .i64 0) := zb.at_ 0
                have z1 : V2.cell? ⟨w.heap.size, 1, none⟩ = some (.int .u64 0) := zb.at_ 1
                have z2 : V2.cell? ⟨w.heap.size, 2, none⟩ = some (.int .i64 0) := zb.at_ 2
                have z3 : V2.cell? ⟨w.heap.size, 3, none⟩ = some (.slice none 0 0) := zb.at_ 3
                have g0 := zb.fr 0
                have g1 := zb.fr 1
                have g2 := zb.fr 2
                have g3 := zb.fr 3
                have HZB := Hid.intro_ zb
                have HNO := HNO1
                clear zb
                go_wp2_with fail
                generalize hX : (((V2.setCell ⟨w.heap.size, 0, none⟩ (.int .i64 0)).setCell ⟨w.heap.size, 1, none⟩ (.int .u64 0)).setCell ⟨w.heap.size, 2, none⟩ (.int .i64 0)).setCell ⟨w.heap.size, 3, none⟩ (.slice none 0 0) = Z at *
                obtain ⟨y0, y1, y2, y3, hk⟩ := res4 HZB.out (HKE.out.then_ KX2.out) _ _ _ _ Z hX.symm
                refine bodyPost_ret (v := .tuple #[.agg #[.int .i64 0, .int .u64 0, .int .i64 0, .slice none 0 0], .bool false]) (by simp [results, Tryz.results87, go_sem, y0, y1, y2, y3]) rfl (OfPost.bad HNO.out hk)
    · have HT := Hid.intro_ (ofL_nlen hend hnm)
      have HIE := Hid.intro_ hie
      rw [hn]
      have hq : ((m : Int) != (n : Int)) = true := by
        have : ¬ (m : Int) = (n : Int) := by omega
        simpa using this
      clear hr ho hl hL hn hrn hro hrev hend hie hok hnm hvv hrr hmm
      go_enter Tryz.func87, Tryz.ntmps87
      go_upto_region 1 with (fail)
      rw [← hW]
      clear hW
      go_wp2_with fail
      refine HIE.out.mono ?_
      rintro e w2 ⟨rfl, k2⟩
      have hb2 := HB.out.keep k2 (fun h => h)
      have hlt2 := hb2.lt
      obtain ⟨V, hV⟩ : ∃ V, V = w2.alloc (.cells #[.int .i64 v, .int .u64 rt, .int .i64 m] 72) := ⟨_, rfl⟩
      have HBV := Hid.intro_ (show Blk V w.heap.size 86 #[.int .i64 0, .int .u64 0, .int .i64 0, .slice none 0 0] by rw [hV]; exact hb2.alloc _)
      have HKV := Hid.intro_ (show Keep Nil w V by rw [hV]; exact (HK.out.then_ k2).alloc _)
      have bI : Blk V w2.heap.size 72 #[.int .i64 v, .int .u64 rt, .int .i64 m] := by rw [hV]; exact Blk.new w2 _ _
      have x2 : V.cell? ⟨w2.heap.size, 2, none⟩ = some (.int .i64 m) := bI.at_ 2
      have zv0 : V.cell? ⟨w.heap.size, 0, none⟩ = some (.int .i64 0) := HBV.out.at_ 0
      have zv1 : V.cell? ⟨w.heap.size, 1, none⟩ = some (.int .u64 0) := HBV.out.at_ 1
      have zv2 : V.cell? ⟨w.heap.size, 2, none⟩ = some (.int .i64 0) := HBV.out.at_ 2
      have zv3 : V.cell? ⟨w.heap.size, 3, none⟩ = some (.slice none 0 0) := HBV.out.at_ 3
      have gv0 := HBV.out.fr 0
      have gv1 := HBV.out.fr 1
      have gv2 := HBV.out.fr 2
      have gv3 := HBV.out.fr 3
      clear hb2 k2 bI
      go_upto_region 4 with (fail)
      rw [← hV]
      clear hV
      go_wp2_with fail
      generalize hX : (((V.setCell ⟨w.heap.size, 0, none⟩ (.int .i64 0)).setCell ⟨w.heap.size, 1, none⟩ (.int .u64 0)).setCell ⟨w.heap.size, 2, none⟩ (.int .i64 0)).setCell ⟨w.heap.size, 3, none⟩ (.slice none 0 0) = X at *
      obtain ⟨y0, y1, y2, y3, hk⟩ := res4 HBV.out HKV.out _ _ _ _ X hX.symm
      refine bodyPost_ret (v := .tuple #[.agg #[.int .i64 0, .int .u64 0, .int .i64 0, .slice none 0 0], .bool false]) (by simp [results, Tryz.results87, go_sem, y0, y1, y2, y3]) rfl (OfPost.bad HT.out hk)
end Go.Proofs.YtadipinnbehhhaaGreatDoor
namespace Go.Proofs.YtadipinnbehhhaaGreatDoor
open Go.RowKit

section
variable {c : Cx} {w w' : World} {b b1 b2 : Nat} {F F' G : Nat → Prop} {v v1 v2 : Value} {x x1 x2 : RdSt} {s s' : RSt}
end
end Go.Proofs.YtadipinnbehhhaaGreatDoor
namespace Go.Proofs.YtadipinnbehhhaaGreatDoor
open Go.RowKit

structure TX where
  c : Cx
  n1 : ByteArray
  n2 : ByteArray
  L1 : List R4
  L2 : List R4
  b1 : Nat
  b2 : Nat
  G0 : Nat → Prop
  s0 : RSt
  Y : World
  Q : Nat
section
variable {X : TX} {w w' : World} {fs : List (ByteArray × AFile)} {rem1 rem2 rest : List R4} {r : R4}
end
end Go.Proofs.YtadipinnbehhhaaGreatDoor
namespace Go.Proofs.YtadipinnbehhhaaGreatDoor
open Go.RowKit

end Go.Proofs.YtadipinnbehhhaaGreatDoor
namespace Go.Proofs.YtadipinnbehhhaaGreatDoor
open Go.RowKit

end Go.Proofs.YtadipinnbehhhaaGreatDoor
namespace Go.Proofs.YtadipinnbehhhaaGreatDoor
open Go.RowKit

section
variable {X : TX} {w w' : World} {fs : List (ByteArray × AFile)} {rem1 rem2 rest : List R4} {r : R4}
end

end Go.Proofs.YtadipinnbehhhaaGreatDoor
namespace Go.Proofs.YtadipinnbehhhaaGreatDoor
open Go.RowKit

section
variable {c : Cx} {w w' : World} {G : Nat → Prop} {s s' : RSt} {fs : List (ByteArray × AFile)} {name : ByteArray} {d : Dg}
end
end Go.Proofs.YtadipinnbehhhaaGreatDoor
namespace Go.Proofs.YtadipinnbehhhaaGreatDoor
open Go.RowKit

end Go.Proofs.YtadipinnbehhhaaGreatDoor
namespace Go.Proofs.YtadipinnbehhhaaGreatDoor
open Go.RowKit

end Go.Proofs.YtadipinnbehhhaaGreatDoor
namespace Go.Proofs.YtadipinnbehhhaaGreatDoor
open Go.RowKit

end Go.Proofs.YtadipinnbehhhaaGreatDoor
namespace Go.Proofs.YtadipinnbehhhaaGreatDoor
open Go.RowKit

section
variable {c : Cx} {d e : Dg} {s0 : RSt} {G0 : Nat → Prop} {Y w w' : World} {b : Int} {J : Nat}
end
end Go.Proofs.YtadipinnbehhhaaGreatDoor
namespace Go.Proofs.YtadipinnbehhhaaGreatDoor
open Go.RowKit

end Go.Proofs.YtadipinnbehhhaaGreatDoor
