/- Parts of the proof: TWalk Paths CubR. -/
import Derived.Test.YtadipinnbehhhaaGreatDoorCubesRowAR
import Derived.Test.YtadipinnbehhhaaGreatDoorCubesRowAN
import Derived.Test.YtadipinnbehhhaaGreatDoorCubesRowAE
namespace Go.Proofs.YtadipinnbehhhaaGreatDoor
open Go.RowKit

theorem leaf_test {p : Nat} (hs : sF p = true) : decide ((p : Int) < 9223372036854775808) = false := by
  rcases (sF_cases p).1 hs with h | h
  · subst h; decide
  · subst h; decide
theorem inner_test {p : Nat} (h : p < 72057594037927936) : decide ((p : Int) < 9223372036854775808) = true := decide_eq_true (by omega)
theorem index_two0 (a b : Int) (w : World) : (Instr.index 374 (.agg #[.int .u64 a, .int .u64 b]) (.int .i64 0)).run Tryz.prog w = .ok (.int .u64 a) w := by kernel_rfl
theorem index_two1 (a b : Int) (w : World) : (Instr.index 374 (.agg #[.int .u64 a, .int .u64 b]) (.int .i64 1)).run Tryz.prog w = .ok (.int .u64 b) w := by kernel_rfl
theorem lead_lt {d : Dg} {p : Nat} (ok : DgOk d) (h : Leads d p) (hs : sF p = false) : p < 72057594037927936 := by
  obtain ⟨n, hn, rfl⟩ := lead_node ok h hs
  exact (sIn_lv (ok.rows.inn hn.mem)).2.1
section
variable {w : World} {fs : List (ByteArray × AFile)}
set_option maxRecDepth 100000 in
set_option maxHeartbeats 16000000 in
theorem twalk_any (X : KX) (PK : KOk X fs) (hXP : X.P = X.d.P.reverse) (ok : DgOk X.d) (g : N3 → Bool) (fv : Nat) (caps : Array Value) (I : Nat → World → Prop) (hI : DecI X g fv caps I) (h : CuK X 0 w) (h0 : I X.d.r w) (hH : ∀ z, X.H z → z < X.Y.heap.size) :
    Calls Tryz.prog 220 #[.pointer (some ⟨X.cb, 0, none⟩), .int .u64 X.d.r, .func (.func fv) #[] caps] w fun e w' => ∃ p k : Nat, e = .returned (.tuple #[.int .u64 p, .int .i64 0]) ∧ sF p = true ∧ I p w' ∧ CuK X k w' := by
  obtain ⟨cb, hcb⟩ : ∃ cb, cb = X.cb := ⟨_, rfl⟩
  obtain ⟨r, hr⟩ : ∃ r, r = X.d.r := ⟨_, rfl⟩
  obtain ⟨m, hm⟩ : ∃ m, m = X.d.m := ⟨_, rfl⟩
  have HPT := Hid.intro_ (PtOn.start ok h)
  have HI0 := Hid.intro_ h0
  rw [← hr] at HPT HI0
  have HI := Hid.intro_ hI
  have HOK := Hid.intro_ ok
  have HPK := Hid.intro_ PK
  have HXP := Hid.intro_ hXP
  have HHH := Hid.intro_ hH
  have HM := Hid.intro_ hm
  have HNXT := Hid.intro_ (fun k n W (hc : CuK X k W) (hn : X.P[k]? = some n) => hc.next PK hn)
  rw [← hcb] at HNXT
  rw [← hcb, ← hr]
  clear h h0 hI ok PK hXP hH hcb hr hm
  go_enter Tryz.func220, Tryz.ntmps220
  go_wp2_with fail
  go_loopg [8] (m + 1) (fun gk p wr => ∃ (k pn : Nat), p = .int .u64 pn ∧ gk = m - k + 1 ∧ Hid (PtOn X k pn wr) ∧ Hid (I pn wr))
  case atStart => exact ⟨0, r, rfl, by omega, HPT, HI0⟩
  case round =>
    obtain ⟨k, pn, rfl, hgk, HE, HJ⟩ := hrel
    have HGK := Hid.intro_ hgk
    clear hgk
    obtain ⟨lf, hlf⟩ : ∃ lf, lf = sF pn := ⟨_, rfl⟩
    cases lf with
    | true =>
      have hq := leaf_test hlf.symm
      have HLF := Hid.intro_ hlf.symm
      clear hlf
      go_wp2_with fail
      go_ret2
      exact ⟨pn, k, rfl, HLF.out, HJ.out, HE.out.cur⟩
    | false =>
      have hq := inner_test (lead_lt HOK.out HE.out.leads hlf.symm)
      obtain ⟨i0', x0, hi0, hx0, _⟩ := HE.out.reach hlf.symm
      have hlen := HOK.out.rows.len
      have hmm := HM.out
      have hkm : k < X.d.m := by omega
      obtain ⟨x, hx⟩ : ∃ x, X.d.P[X.d.m - 1 - k]? = some x := ⟨_, List.getElem?_eq_getElem (by omega)⟩
      have hxr : X.P[k]? = some x := by rw [HXP.out, List.getElem?_reverse (by omega), hlen]; exact hx
      have HNX := Hid.intro_ (HNXT.out k x wr HE.out.cur hxr)
      have hN := Hid.intro_ (NodeAt.of HOK.out hx)
      have hokn := Hid.intro_ (HOK.out.rows.okn x (List.mem_of_getElem? hx))
      have HHIT := Hid.intro_ (fun W (hc : CuK X (k + 1) W) (e : x.self = pn) => HE.out.hit HOK.out hkm hx hc e g)
      have HMISS := Hid.intro_ (fun W (hc : CuK X (k + 1) W) (e : ¬ x.self = pn) => HE.out.miss hkm hx hc e)
      have HDEC := Hid.intro_ (fun W (hj : I x.self W) => HI.out.call x W hN.out hokn.out.1 hokn.out.2.1 hokn.out.2.2 hj)
      have HFAR := Hid.intro_ HI.out.far
      have hcf := HI.out.ent x.self x.low x.high
      have HKM : Hid (k < m) := Hid.intro_ (by omega)
      obtain ⟨s, hs⟩ : ∃ s, s = g x := ⟨_, rfl⟩
      have hkid : kidG g x = if s = true then x.high else x.low := by rw [hs]; rfl
      rw [← hs] at HDEC
      obtain ⟨a1, ha1⟩ : ∃ a1, a1 = x.self := ⟨_, rfl⟩
      obtain ⟨a2, ha2⟩ : ∃ a2, a2 = x.low := ⟨_, rfl⟩
      obtain ⟨a3, ha3⟩ : ∃ a3, a3 = x.high := ⟨_, rfl⟩
      rw [← ha1, ← ha2, ← ha3] at HNX HDEC hcf
      rw [← ha1] at HHIT HMISS
      rw [← ha2, ← ha3] at hkid
      have HKID := Hid.intro_ hkid
      unfold ndV at HNX HDEC hcf
      clear hlf hi0 hx0 hx hxr hlen hmm hkm hs hkid ha1 ha2 ha3
      by_cases hq1 : a1 = pn
      · have hq2 : ((a1 : Int) == (pn : Int)) = true := by rw [hq1]; simp
        have HQ1 := Hid.intro_ hq1
        clear hq1
        go_upto_region 9 with (go_at_call 85; refine HNX.out.mono ?_; rintro e wn ⟨rfl, hcn, hkn⟩
                               have HCN := Hid.intro_ hcn
                               have HKN := Hid.intro_ hkn
                               clear hcn hkn)
        obtain ⟨V, hV⟩ : ∃ V, V = wn.alloc (.cells #[.int .u64 a1, .int .u64 a2, .int .u64 a3] 46) := ⟨_, rfl⟩
        have kV : Keep Nil wn V := by rw [hV]; exact (Keep.refl Nil wn).alloc _
        have bV : Blk V wn.heap.size 46 #[.int .u64 a1, .int .u64 a2, .int .u64 a3] := by rw [hV]; exact Blk.new wn _ _
        have hTH : ¬ X.H wn.heap.size := fun hz => by
          have h1 := HHH.out _ hz
          have h2 := HCN.out.keep.size
          omega
        have HTH := Hid.intro_ hTH
        have t0 : V.cell? ⟨wn.heap.size, 0, none⟩ = some (.int .u64 a1) := bV.at_ 0
        have t1 : V.cell? ⟨wn.heap.size, 1, none⟩ = some (.int .u64 a2) := bV.at_ 1
        have t2 : V.cell? ⟨wn.heap.size, 2, none⟩ = some (.int .u64 a3) := bV.at_ 2
        have KV := Hid.intro_ kV
        have HCV := Hid.intro_ ((HHIT.out _ (HCN.out.nil kV) HQ1.out))
        have hjv : I a1 V.drew := by
          rw [HQ1.out]
          exact HFAR.out _ _ _ (HFAR.out _ _ _ HJ.out HKN.out) (((kV.then_ ((Keep.refl Nil V).drew)).mono (fun _ _ h => h.elim)))
        have HD := Hid.intro_ (HDEC.out V.drew hjv)
        clear hTH kV bV hjv HDEC HHIT HMISS HNX
        rw [← hV]
        clear hV
        go_wp2_with fail
        cases s with
        | true =>
          have HK2 := Hid.intro_ (show kidG g x = a3 by rw [HKID.out]; rfl)
          simp only [if_true] at HD
          have hix := index_two1 a2 a3
          clear HKID
          go_region_held3 (fun w' => w'.cell? ⟨wn.heap.size, 0, none⟩ = some (.int .u64 a1) ∧ w'.cell? ⟨wn.heap.size, 1, none⟩ = some (.int .u64 a2) ∧ w'.cell? ⟨wn.heap.size, 2, none⟩ = some (.int .u64 a3))
            (first | exact ⟨t0, t1, t2⟩ | exact hS2.out | go_keep)
            (first
              | (refine HD.out.mono ?_; rintro e w5 ⟨rfl, hi5, k5⟩
                 have hS2 := Hid.intro_ (And.intro (cell_keep (w := V.drew) t0 k5 HTH.out) (And.intro (cell_keep (w := V.drew) t1 k5 HTH.out) (cell_keep (w := V.drew) t2 k5 HTH.out)))
                 have HI5 := Hid.intro_ hi5
                 have K5 := Hid.intro_ k5
                 clear hi5 k5))
          go_wp2_with fail
          go_roundg (m - (k + 1) + 1)
          case measure => have := HGK.out; have := HKM.out; omega
          case rel => exact ⟨k + 1, a3, rfl, rfl, Hid.intro_ (by
            have := (HCV.out.nil (Keep.refl Nil V).drew).aside K5.out
            rw [HK2.out] at this
            exact this), Hid.intro_ (by
            have := HI5.out
            rw [HK2.out] at this
            exact this)⟩
        | false =>
          have HK2 := Hid.intro_ (show kidG g x = a2 by rw [HKID.out]; rfl)
          simp only [Bool.false_eq_true, if_false] at HD
          have hix := index_two0 a2 a3
          clear HKID
          go_region_held3 (fun w' => w'.cell? ⟨wn.heap.size, 0, none⟩ = some (.int .u64 a1) ∧ w'.cell? ⟨wn.heap.size, 1, none⟩ = some (.int .u64 a2) ∧ w'.cell? ⟨wn.heap.size, 2, none⟩ = some (.int .u64 a3))
            (first | exact ⟨t0, t1, t2⟩ | exact hS2.out | go_keep)
            (first
              | (refine HD.out.mono ?_; rintro e w5 ⟨rfl, hi5, k5⟩
                 have hS2 := Hid.intro_ (And.intro (cell_keep (w := V.drew) t0 k5 HTH.out) (And.intro (cell_keep (w := V.drew) t1 k5 HTH.out) (cell_keep (w := V.drew) t2 k5 HTH.out)))
                 have HI5 := Hid.intro_ hi5
                 have K5 := Hid.intro_ k5
                 clear hi5 k5))
          go_wp2_with fail
          go_roundg (m - (k + 1) + 1)
          case measure => have := HGK.out; have := HKM.out; omega
          case rel => exact ⟨k + 1, a2, rfl, rfl, Hid.intro_ (by
            have := (HCV.out.nil (Keep.refl Nil V).drew).aside K5.out
            rw [HK2.out] at this
            exact this), Hid.intro_ (by
            have := HI5.out
            rw [HK2.out] at this
            exact this)⟩
      · have hq2 : ((a1 : Int) == (pn : Int)) = false := by
          have : ¬ (a1 : Int) = (pn : Int) := by omega
          simpa using this
        have HQ1 := Hid.intro_ hq1
        clear hq1
        go_wp2_with (go_at_call 85; refine HNX.out.mono ?_; rintro e wn ⟨rfl, hcn, hkn⟩
                     have HCN := Hid.intro_ hcn
                     have HKN := Hid.intro_ hkn
                     clear hcn hkn)
        go_roundg (m - (k + 1) + 1)
        case measure => have := HGK.out; have := HKM.out; omega
        case rel => exact ⟨k + 1, pn, rfl, rfl, Hid.intro_ ((HMISS.out _ HCN.out HQ1.out).nil ((Keep.refl Nil wn).alloc _)), Hid.intro_ (HFAR.out _ _ _ (HFAR.out _ _ _ HJ.out HKN.out) (((Keep.refl Nil wn).alloc _).mono (fun _ _ h => h.elim)))⟩
end
end Go.Proofs.YtadipinnbehhhaaGreatDoor
namespace Go.Proofs.YtadipinnbehhhaaGreatDoor
open Go.RowKit

section
variable {c : Cx} {w w' : World} {cb b : Nat} {G G' : Nat → Prop} {s s' : RSt} {x : RdSt} {y : CuSt} {name : ByteArray} {L rem : List R4} {q : Nat} {back : Bool}
set_option maxRecDepth 100000 in
set_option maxHeartbeats 1000000 in
theorem curclose (hcu : CurAt c w cb b G s x y) (hd : y.done = false) (hv : RdLive c name 2 L back x q rem) (hcl : s.S.closed = false) (hh : (c.K : Int) ≤ s.S.hand) :
    Calls Tryz.prog 84 #[.pointer (some ⟨cb, 0, none⟩)] w fun e w' => e = .returned (.int .i64 0) ∧ ∃ s' G', Went 0 (-(c.K : Int)) s s' ∧ RmAt c w' G' s' ∧ Stp w G w' G' := by
  have c0 : w.cell? ⟨cb, 0, none⟩ = some (.pointer (some ⟨b, 0, none⟩)) := hcu.blk.at_ 0
  have c10 : w.cell? ⟨cb, 10, none⟩ = some (.bool false) := by rw [← hd]; exact hcu.blk.at_ 10
  have f10 := hcu.blk.fr 10
  have hto := hcu.recell (y' := { y with done := true }) ((Keep.refl (fun z => z = cb) w).setCell (p := ⟨cb, 10, none⟩) (fun _ => rfl) (.bool true)) (hcu.blk.set_ 10 _)
  obtain ⟨G1, h1, s1⟩ := hto
  obtain ⟨G0, hr1, _, hvia⟩ := h1.via
  have hrc := rclose_any c _ b G0 s x hr1
  rw [hv.closes] at hrc
  have S1 := Hid.intro_ s1
  have HRC := Hid.intro_ hrc
  have HV := Hid.intro_ hvia
  have HG := Hid.intro_ (Went.give s hcl hh)
  clear hcu hd hv s1 h1 hr1 hvia hrc hcl hh
  go_enter Tryz.func84, Tryz.ntmps84
  go_wp2_with fail
  refine HRC.out.mono ?_
  rintro e w2 ⟨rfl, ht⟩
  obtain ⟨G2, h2, s2⟩ := HV.out _ _ _ ht
  go_wp2_with fail
  go_ret
  obtain ⟨G3, h3, s3⟩ := CurTo.to_rm ⟨G2, h2, S1.out.trans s2⟩
  exact ⟨rfl, _, G3, HG.out, h3, s3⟩
end

theorem by8_set2 (t : List Int) (i : Nat) (x : Int) : (by8 t).set i (.int .u8 x) = by8 (t.set i x) := by
  unfold by8
  rw [List.map_set]
theorem by8_at2 {t : List Int} {i : Nat} {x : Int} (h : t[i]? = some x) : (by8 t)[i]? = some (.int .u8 x) := by
  unfold by8
  rw [List.getElem?_map, h]
  rfl
def pthV (c : Cx) (name : ByteArray) (cu : Value) (root : Nat) (tv : Value) : Array Value := #[.pointer (some ⟨c.k, 0, none⟩), .string name, cu, .int .u64 root, tv, .int .i64 0]
structure TxtAt (X : KX) (pb : Nat) (w : World) (G : Nat → Prop) (o : Option (Nat × List Int)) (tv : Value) : Prop where
  no : o = none → tv = .slice none 0 0
  yes : ∀ tb t, o = some (tb, t) → tv = .slice (some ⟨tb, 0, none⟩) X.d.v X.d.v ∧ RowV w tb 5 (by8 t) ∧ t.length = X.d.v ∧ Txt3 t ∧ Off X.c.E G tb ∧ X.Y.heap.size ≤ tb ∧ ¬ tb = pb
structure ZAt (Z : Nat → Prop) (pb : Nat) (w : World) (G : Nat → Prop) (o : Option (Nat × List Int)) : Prop where
  off : ∀ z, Z z → ¬ G z ∧ z < w.heap.size ∧ ¬ z = pb
  txt : ∀ z, Z z → ∀ tb t, o = some (tb, t) → ¬ z = tb
structure PthAt (X : KX) (Z : Nat → Prop) (pb : Nat) (w : World) (G : Nat → Prop) (cu : Value) (root : Nat) (o : Option (Nat × List Int)) : Prop where mk ::
  out : ∃ tv, Blk w pb 286 (pthV X.c X.name cu root tv) ∧ Off X.c.E G pb ∧ X.Y.heap.size ≤ pb ∧ TxtAt X pb w G o tv
  za : ZAt Z pb w G o
structure PsShut (X : KX) (Z : Nat → Prop) (pb : Nat) (o : Option (Nat × List Int)) (w : World) : Prop where mk ::
  out : ∃ G s j root, KStp X w G s j 0 ∧ RmAt X.c w G s ∧ PthAt X Z pb w G (.pointer none) root o
structure PsOpen (X : KX) (Z : Nat → Prop) (pb : Nat) (o : Option (Nat × List Int)) (w : World) : Prop where mk ::
  out : ∃ G s j cb b x y q rem, KStp X w G s j X.c.K ∧ CurAt X.c w cb b G s x y ∧ y.done = false ∧ RdLive X.c X.name 2 (recsD X.d) true x q rem ∧ PthAt X Z pb w G (.pointer (some ⟨cb, 0, none⟩)) X.d.r o
section
variable {X : KX} {pb : Nat} {o : Option (Nat × List Int)} {w w' : World} {G G' : Nat → Prop} {s s' : RSt} {j : Nat} {h : Int} {fs : List (ByteArray × AFile)} {cu : Value} {root : Nat} {F Z Z' : Nat → Prop}

theorem ZAt.step (z : ZAt Z pb w G o) (st : Stp w G w' G') : ZAt Z pb w' G' o :=
  ⟨fun x hx => ⟨st.off (z.off x hx).2.1 (z.off x hx).1, Nat.lt_of_lt_of_le (z.off x hx).2.1 st.keep.size, (z.off x hx).2.2⟩, z.txt⟩
theorem ZAt.keep (z : ZAt Z pb w G o) (k : Keep F w w') : ZAt Z pb w' G o := ⟨fun x hx => ⟨(z.off x hx).1, Nat.lt_of_lt_of_le (z.off x hx).2.1 k.size, (z.off x hx).2.2⟩, z.txt⟩
theorem ZAt.keeps (z : ZAt Z pb w G o) (k : Keep G w w') : Keep (fun x => ¬ Z x) w w' := k.mono (fun x _ hg hx => (z.off x hx).1 hg)
theorem ZAt.keepb (z : ZAt Z pb w G o) (k : Keep (fun x => x = pb) w w') : Keep (fun x => ¬ Z x) w w' := k.mono (fun x _ e hx => (z.off x hx).2.2 e)
theorem ZAt.more (z : ZAt Z pb w G o) (k : Keep Nil w w') (hG : ∀ x, G x → x < w.heap.size) (hp : pb < w.heap.size) (ht : ∀ tb t, o = some (tb, t) → tb < w.heap.size) (hZ : ∀ x, Z' x → Z x ∨ (w.heap.size ≤ x ∧ x < w'.heap.size)) : ZAt Z' pb w' G o := by
  have hk := k.size
  refine ⟨fun x hx => ?_, fun x hx tb t e => ?_⟩
  · rcases hZ x hx with h1 | ⟨h1, h2⟩
    · have := z.off x h1
      exact ⟨this.1, by omega, this.2.2⟩
    · exact ⟨fun hg => by have := hG x hg; omega, h2, by omega⟩
  · rcases hZ x hx with h1 | ⟨h1, h2⟩
    · exact z.txt x h1 tb t e
    · have := ht tb t e
      omega
theorem TxtAt.keep {tv : Value} (t : TxtAt X pb w G o tv) (k : Keep F w w') (hF : ∀ z, F z → X.Y.heap.size ≤ z → ∀ tb t, o = some (tb, t) → ¬ z = tb) (hg : ∀ z, Off X.c.E G z → z < w.heap.size → Off X.c.E G' z) : TxtAt X pb w' G' o tv :=
  ⟨t.no, fun tb t' e => by
    obtain ⟨h1, h2, h3, h4, h5, h6, h7⟩ := t.yes tb t' e
    exact ⟨h1, h2.keep k (fun hf => hF tb hf h6 tb t' e rfl), h3, h4, hg tb h5 h2.lt, h6, h7⟩⟩
theorem TxtAt.step {tv : Value} (t : TxtAt X pb w G o tv) (st : Stp w G w' G') : TxtAt X pb w' G' o tv :=
  ⟨t.no, fun tb t' e => by
    obtain ⟨h1, h2, h3, h4, h5, h6, h7⟩ := t.yes tb t' e
    exact ⟨h1, h2.keep st.keep h5.1, h3, h4, h5.step h2.lt st, h6, h7⟩⟩
theorem TxtAt.nil {tv : Value} (t : TxtAt X pb w G o tv) (k : Keep Nil w w') : TxtAt X pb w' G o tv := t.step (Stp.of_nil k G)
theorem TxtAt.aside {tv : Value} (t : TxtAt X pb w G o tv) (k : Keep X.H w w') (hH : ∀ z, X.H z → z < X.Y.heap.size) : TxtAt X pb w' G o tv :=
  t.keep k (fun z hz hl => by have := hH z hz; omega) (fun _ h _ => h)
theorem PthAt.step (p : PthAt X Z pb w G cu root o) (st : Stp w G w' G') : PthAt X Z pb w' G' cu root o := by
  obtain ⟨tv, h1, h2, h3, h4⟩ := p.out
  exact ⟨⟨tv, h1.keep st.keep h2.1, h2.step h1.lt st, h3, h4.step st⟩, p.za.step st⟩
theorem PthAt.nil (p : PthAt X Z pb w G cu root o) (k : Keep Nil w w') : PthAt X Z pb w' G cu root o := p.step (Stp.of_nil k G)
theorem PthAt.aside (p : PthAt X Z pb w G cu root o) (k : Keep X.H w w') (hH : ∀ z, X.H z → z < X.Y.heap.size) : PthAt X Z pb w' G cu root o := by
  obtain ⟨tv, h1, h2, h3, h4⟩ := p.out
  exact ⟨⟨tv, h1.keep k (fun hf => by have := hH _ hf; omega), h2, h3, h4.aside k hH⟩, p.za.keep k⟩
theorem KStp.own (p : KStp X w G s j h) (k : Keep F w w') (hF : ∀ z, F z → X.Y.heap.size ≤ z) : KStp X w' G s j h := {
  keep := p.keep.trans k (fun z hz hf => by have := hF z hf; omega)
  grow := p.grow
  went := p.went
  off := p.off }
theorem RmAt.beside (r : RmAt X.c w G s) (k : Keep F w w') (hF : ∀ z, F z → Off X.c.E G z) : RmAt X.c w' G s := by
  refine r.keep k (fun z hz hf => (hF z hf).1 hz) ?_
  have e := r.env
  exact ⟨⟨e.errs.errs, fun i hi hf => ((hF _ hf).2.1 i hi).1 rfl, fun i hi hf => ((hF _ hf).2.1 i hi).2 rfl⟩, e.halves, e.magic, fun hf => (hF _ hf).2.2.1 rfl, fun hf => (hF _ hf).2.2.2 rfl⟩
theorem PthAt.more (p : PthAt X Z pb w G cu root o) (k : Keep Nil w w') (hG : ∀ x, G x → x < w.heap.size) (hZ : ∀ x, Z' x → Z x ∨ (w.heap.size ≤ x ∧ x < w'.heap.size)) : PthAt X Z' pb w' G cu root o := by
  obtain ⟨tv, h1, h2, h3, h4⟩ := p.out
  exact ⟨(p.nil k).out, p.za.more k hG h1.lt (fun tb t e => (h4.yes tb t e).2.1.lt) hZ⟩
theorem PsShut.more (p : PsShut X Z pb o w) (k : Keep Nil w w') (hZ : ∀ x, Z' x → Z x ∨ (w.heap.size ≤ x ∧ x < w'.heap.size)) : PsShut X Z' pb o w' := by
  obtain ⟨G, s, j, root, h1, h2, h3⟩ := p.out
  exact ⟨G, s, j, root, h1.nil k, h2.nil k, h3.more k h2.lt hZ⟩
theorem PsOpen.more (p : PsOpen X Z pb o w) (k : Keep Nil w w') (hZ : ∀ x, Z' x → Z x ∨ (w.heap.size ≤ x ∧ x < w'.heap.size)) : PsOpen X Z' pb o w' := by
  obtain ⟨G, s, j, cb, b, x, y, q, rem, h1, h2, h3, h4, h5⟩ := p.out
  exact ⟨G, s, j, cb, b, x, y, q, rem, h1.nil k, h2.nil k, h3, h4, h5.more k h2.lt hZ⟩
set_option maxRecDepth 100000 in
set_option maxHeartbeats 1000000 in
theorem pend_shut (p : PsShut X Z pb o w) : Calls Tryz.prog 178 #[.pointer (some ⟨pb, 0, none⟩)] w fun e w' => e = .returned (.tuple #[]) ∧ w' = w := by
  obtain ⟨G, s, j, root, h1, h2, h3⟩ := p.out
  obtain ⟨tv, b1, _⟩ := h3.out
  have c2 : w.cell? ⟨pb, 2, none⟩ = some (.pointer none) := b1.at_ 2
  clear p h1 h2 h3 b1
  go_enter Tryz.func178, Tryz.ntmps178
  go_wp2_with fail
  go_end0
  exact ⟨rfl, rfl⟩
structure PxOk (X : KX) (fs : List (ByteArray × AFile)) : Prop where
  P : AkP X.c fs X.name X.d X.s0
  L : X.L = recsD X.d
  HY : ∀ z, X.H z → z < X.Y.heap.size
set_option maxRecDepth 100000 in
set_option maxHeartbeats 1000000 in
theorem pend_open (P : PxOk X fs) (p : PsOpen X Z pb o w) : Calls Tryz.prog 178 #[.pointer (some ⟨pb, 0, none⟩)] w fun e w' => e = .returned (.tuple #[]) ∧ PsShut X Z pb o w' ∧ Keep (fun z => ¬ Z z) w w' := by
  obtain ⟨G, s, j, cb, b, x, y, q, rem, h1, h2, h3, h4, h5⟩ := p.out
  obtain ⟨tv, b1, ho, hy, ht⟩ := h5.out
  have c2 : w.cell? ⟨pb, 2, none⟩ = some (.pointer (some ⟨cb, 0, none⟩)) := b1.at_ 2
  have HC := Hid.intro_ (curclose h2 h3 h4 (by rw [h1.went.closed]; exact P.P.opn) (by rw [h1.went.hand, P.P.hand]; omega))
  have H1 := Hid.intro_ h1
  have HT := Hid.intro_ ht
  have HO := Hid.intro_ ho
  have HY := Hid.intro_ hy
  have HB := Hid.intro_ b1
  have HZ := Hid.intro_ h5.za
  obtain ⟨r, hr⟩ : ∃ r, r = X.d.r := ⟨_, rfl⟩
  clear p P h1 h2 h3 h4 h5 b1 ho hy ht
  go_enter Tryz.func178, Tryz.ntmps178
  go_wp2_with fail
  refine HC.out.mono ?_
  rintro e w2 ⟨rfl, s2, G2, hw, hr2, st⟩
  have b2 := HB.out.keep st.keep HO.out.1
  have c22 : w2.cell? ⟨pb, 2, none⟩ = some (.pointer (some ⟨cb, 0, none⟩)) := b2.at_ 2
  have f22 := b2.fr 2
  have HB2 := Hid.intro_ b2
  have HW := Hid.intro_ hw
  have HR2 := Hid.intro_ hr2
  have ST := Hid.intro_ st
  clear hw hr2 st b2
  go_wp2_with fail
  go_end0
  have kx : Keep (fun z => z = pb) w2 (w2.setCell ⟨pb, 2, none⟩ (.pointer none)) := (Keep.refl (fun z => z = pb) w2).setCell (p := ⟨pb, 2, none⟩) (fun _ => rfl) _
  have ho2 : Off X.c.E G2 pb := HO.out.step HB.out.lt ST.out
  refine ⟨rfl, ⟨G2, s2, 0 + j, X.d.r, ?_, ?_, ⟨tv, ?_, ho2, HY.out, ?_⟩, (HZ.out.step ST.out).keep kx⟩, (HZ.out.keeps ST.out.keep).then_ ((HZ.out.step ST.out).keepb kx)⟩
  · have := (H1.out.step ST.out HW.out).own kx (fun z hz => by rw [show z = pb from hz]; exact HY.out)
    rw [Int.add_right_neg] at this
    exact this
  · exact HR2.out.beside kx (fun z hz => by rw [show z = pb from hz]; exact ho2)
  · exact HB2.out.set_ 2 _
  · refine (HT.out.step ST.out).keep kx (fun z hz _ tb t e => ?_) (fun _ h _ => h)
    rw [show z = pb from hz]
    exact fun e2 => (HT.out.yes tb t e).2.2.2.2.2.2 e2.symm
set_option maxRecDepth 100000 in
set_option maxHeartbeats 4000000 in
theorem blank_new (v : Nat) (hv : v ≤ 65536) (w : World) : Calls Tryz.prog 219 #[.int .i64 v] w fun e w' => ∃ g, e = .returned (.slice (some ⟨g, 0, none⟩) v v) ∧ w.heap.size ≤ g ∧ RowV w' g 5 (by8 (blankL v)) ∧ Keep Nil w w' := by
  obtain ⟨i1, hi1, hz0, hz1, hz2⟩ := info_parts info_u8
  go_enter Tryz.func219, Tryz.ntmps219
  go_wp2_with (at_make; refine wpList_make_full _ rfl _ _ 161 rfl w.heap.size 5 i1 (.int .u8 0) 1 Tryz.underlying161 hi1 hz0 hz1 .i64 .i64 _ _ v rfl rfl rfl rfl (by rw [hz2]; omega) (by unfold maxLen; omega) (Nat.le_refl _) ?_; intro w1 ho1 k1)
  have hrow : Hid (RowV w1 w.heap.size 5 (by8 (List.replicate v 0))) := Hid.intro_ (by
    have e : (madeCells (Value.int .u8 0).cells (v * 1)).toList = by8 (List.replicate v 0) := by
      rw [Nat.mul_one]
      unfold by8
      rw [List.map_replicate]
      exact toList_madeCells_one _ _
    rw [e] at ho1
    exact own_full ho1 (by simp [by8]))
  have HK1 : Hid (Keep Nil w w1) := Hid.intro_ ((Keep.of_grown k1).mono (fun _ _ h => by cases h))
  clear ho1 k1
  go_wp2_with fail
  go_loopw [9] (fun i wr => ∃ (k : Nat) (l : List Int), k ≤ v ∧ i = .int .i64 k ∧ Hid (RowV wr w.heap.size 5 (by8 l)) ∧ Hid (l.length = v ∧ ∀ j, j < k → l[j]? = some 45) ∧ Hid (Keep Nil w wr)) (fun i _ => v - (intOf i).toNat)
  case atStart => exact ⟨0, _, Nat.zero_le _, rfl, hrow, Hid.intro_ ⟨by simp, fun j hj => by omega⟩, HK1⟩
  case round =>
    obtain ⟨k, l, hkm, rfl, HO, HL, HK⟩ := hrel
    by_cases hlt : k < v
    · have hki : (k : Int) < (v : Int) := by omega
      have hk0 : (0 : Int) ≤ (k : Int) := by omega
      obtain ⟨x, hx⟩ : ∃ x, l[k]? = some x := ⟨_, List.getElem?_eq_getElem (by have := HL.out.1; omega)⟩
      have c0 := HO.out.at_ (by8_at2 hx)
      have f0 := HO.out.fr k
      clear hx
      go_wp2_with fail
      go_roundw
      case rel =>
        refine ⟨k + 1, l.set k 45, by omega, by go_num, Hid.intro_ ?_, Hid.intro_ ⟨?_, fun j hj => ?_⟩, Hid.intro_ ?_⟩
        · rw [← by8_set2]; exact HO.out.set k _
        · rw [List.length_set]; exact HL.out.1
        · rw [List.getElem?_set]
          have h1 := HL.out.1
          split
          · rw [if_pos (by omega)]
          · exact HL.out.2 j (by omega)
        · exact HK.out.trans ((Keep.refl (fun z => z = w.heap.size) wr).setCell (p := ⟨w.heap.size, k, none⟩) (fun _ => rfl) _) (fun b hb e => by have e : b = w.heap.size := e; omega)
      case measure => simp [intOf]; omega
    · obtain rfl : k = v := by omega
      have hll : l = blankL k := by
        refine List.eq_replicate_iff.2 ⟨HL.out.1, fun b hb => ?_⟩
        obtain ⟨j, hj⟩ := List.getElem?_of_mem hb
        have h1 := (List.getElem?_eq_some_iff.1 hj).1
        have h2 := HL.out.2 j (by have := HL.out.1; omega)
        rw [hj] at h2
        injection h2
      subst hll
      go_wp2_with fail
      go_ret
      exact ⟨_, rfl, Nat.le_refl _, HO.out, HK.out⟩
end
end Go.Proofs.YtadipinnbehhhaaGreatDoor
namespace Go.Proofs.YtadipinnbehhhaaGreatDoor
open Go.RowKit

set_option maxRecDepth 100000 in
set_option maxHeartbeats 8000000 in
theorem rcubes_any {d : Dg} (ok : DgOk d) (A : Option Addr) (cap m : Nat) (w : World) (hm : m ≤ 1000) (hr : DgAt w d A) :
    Calls Tryz.prog 117 #[dgV d A cap, .int .i64 m] w fun e w' => ∃ v, e = .returned v ∧ OSs w' w.heap.size v (d.cubes.take m) ∧ Keep Nil w w' := by
  obtain ⟨i1, hi1, hz0, hz1, hz2⟩ := info_parts info_u8
  obtain ⟨v, hv⟩ : ∃ v, v = d.v := ⟨_, rfl⟩
  obtain ⟨r, hr9⟩ : ∃ r, r = d.r := ⟨_, rfl⟩
  obtain ⟨mm, hmm⟩ : ∃ mm, mm = d.m := ⟨_, rfl⟩
  obtain ⟨N, hN⟩ : ∃ N, N = d.P.length := ⟨_, rfl⟩
  obtain ⟨W0, hW0⟩ : ∃ W0, W0 = w.alloc (.cells #[.int .i64 v, .int .u64 r, .int .i64 mm, .slice A N cap] 86) := ⟨_, rfl⟩
  have HK0 := Hid.intro_ (show Keep Nil w W0 by rw [hW0]; exact (Keep.refl Nil w).alloc _)
  have HB0 := Hid.intro_ (show Blk W0 w.heap.size 86 #[.int .i64 v, .int .u64 r, .int .i64 mm, .slice A N cap] by rw [hW0]; exact Blk.new w _ _)
  have hvl : v ≤ 65536 := by rw [hv]; exact ok.rows.vars
  have hst := starts_any d A cap W0 ok.rows (hr.nil HK0.out)
  have hrl : r < 18446744073709551616 := by rw [hr9]; exact ok.rows.rootlt
  have HFAR := Hid.intro_ (show d.P ≠ [] → ∀ a, A = some a → a.block < w.heap.size from fun hne a ha => (rd_in hr.rd (fun e => hne (by
    cases hp : d.P with
    | nil => rfl
    | cons x l => rw [hp] at e; simp [ndCells] at e)) a ha).2)
  have HR := Hid.intro_ hr
  have HV := Hid.intro_ hv
  have HRR := Hid.intro_ hr9
  have HRC := Hid.intro_ (fun (gs gb base : Nat) (W : World) (hI : RcI d A gs gb base W) (hO : OSs W base (.slice none 0 0) []) (hB : RowV W gb 5 (by8 (blankL d.v))) =>
    rcw_any (cap := cap) ok m 65537 d.r (blankL d.v) [] (.slice none 0 0) W (Fu.start d) ok.root ok.rows.rootlt (by simp [blankL]) (fun _ k _ hk => by
      unfold blankL
      rw [List.getElem?_replicate, if_pos hk]) (Txt3.blank _) (Nat.zero_le _) hm hI hO hB)
  unfold dgV at hst HRC ⊢
  rw [← hv, ← hr9, ← hmm, ← hN] at hst HRC ⊢
  have HST := Hid.intro_ hst
  have s0 : W0.cell? ⟨w.heap.size, 0, none⟩ = some (.int .i64 v) := HB0.out.at_ 0
  have s1 : W0.cell? ⟨w.heap.size, 1, none⟩ = some (.int .u64 r) := HB0.out.at_ 1
  have s2 : W0.cell? ⟨w.heap.size, 2, none⟩ = some (.int .i64 mm) := HB0.out.at_ 2
  have s3 : W0.cell? ⟨w.heap.size, 3, none⟩ = some (.slice A N cap) := HB0.out.at_ 3
  clear hv hr9 hmm hN hr hst
  go_enter Tryz.func117, Tryz.ntmps117
  go_upto_region 1 with (fail)
  rw [← hW0]
  clear hW0
  go_wp2_with fail
  refine HST.out.mono ?_
  rintro e w1 ⟨gs, rfl, hgs, hrow, k1⟩
  have HGS := Hid.intro_ hgs
  have HROW := Hid.intro_ hrow
  have K1 := Hid.intro_ k1
  have b1 := HB0.out.keep k1 (fun h => h)
  have c0 : w1.cell? ⟨w.heap.size, 0, none⟩ = some (.int .i64 v) := b1.at_ 0
  clear hgs hrow k1 b1
  go_wp2_with (at_make; refine wpList_make_full _ rfl _ _ 161 rfl w1.heap.size 5 i1 (.int .u8 0) 1 Tryz.underlying161 hi1 hz0 hz1 .i64 .i64 _ _ v rfl rfl rfl rfl (by rw [hz2]; omega) (by unfold maxLen; omega) (Nat.le_refl _) ?_; intro w2 ho2 k2)
  have hrow : Hid (RowV w2 w1.heap.size 5 (by8 (List.replicate v 0))) := Hid.intro_ (by
    have e : (madeCells (Value.int .u8 0).cells (v * 1)).toList = by8 (List.replicate v 0) := by
      rw [Nat.mul_one]
      unfold by8
      rw [List.map_replicate]
      exact toList_madeCells_one _ _
    rw [e] at ho2
    exact own_full ho2 (by simp [by8]))
  have K2 : Hid (Keep Nil w1 w2) := Hid.intro_ ((Keep.of_grown k2).mono (fun _ _ h => by cases h))
  clear ho2 k2
  go_wp2_with fail
  go_loopw [7] (fun i wr => ∃ (k : Nat) (l : List Int), k ≤ v ∧ i = .int .i64 k ∧ Hid (RowV wr w1.heap.size 5 (by8 l)) ∧ Hid (l.length = v ∧ ∀ j, j < k → l[j]? = some 45) ∧ Hid (Keep Nil w1 wr)) (fun i _ => v - (intOf i).toNat)
  case atStart => exact ⟨0, _, Nat.zero_le _, rfl, hrow, Hid.intro_ ⟨by simp, fun j hj => by omega⟩, K2⟩
  case round =>
    obtain ⟨k, l, hkm, rfl, HO, HL, HK⟩ := hrel
    by_cases hlt : k < v
    · have hki : (k : Int) < (v : Int) := by omega
      have hk0 : (0 : Int) ≤ (k : Int) := by omega
      obtain ⟨x, hx⟩ : ∃ x, l[k]? = some x := ⟨_, List.getElem?_eq_getElem (by have := HL.out.1; omega)⟩
      have c0 := HO.out.at_ (by8_at2 hx)
      have f0 := HO.out.fr k
      clear hx
      go_wp2_with fail
      go_roundw
      case rel =>
        refine ⟨k + 1, l.set k 45, by omega, by go_num, Hid.intro_ ?_, Hid.intro_ ⟨?_, fun j hj => ?_⟩, Hid.intro_ ?_⟩
        · rw [← by8_set2]; exact HO.out.set k _
        · rw [List.length_set]; exact HL.out.1
        · rw [List.getElem?_set]
          have h1 := HL.out.1
          split
          · rw [if_pos (by omega)]
          · exact HL.out.2 j (by omega)
        · exact HK.out.trans ((Keep.refl (fun z => z = w1.heap.size) wr).setCell (p := ⟨w1.heap.size, k, none⟩) (fun _ => rfl) _) (fun b hb e => by have e : b = w1.heap.size := e; omega)
      case measure => simp [intOf]; omega
    · obtain rfl : k = v := by omega
      have hll : l = blankL k := by
        refine List.eq_replicate_iff.2 ⟨HL.out.1, fun b hb => ?_⟩
        obtain ⟨j, hj⟩ := List.getElem?_of_mem hb
        have h1 := (List.getElem?_eq_some_iff.1 hj).1
        have h2 := HL.out.2 j (by have := HL.out.1; omega)
        rw [hj] at h2
        injection h2
      subst hll
      have kk := K1.out.then_ HK.out
      have bD := HB0.out.keep kk (fun h => h)
      have d0 : wr.cell? ⟨w.heap.size, 0, none⟩ = some (.int .i64 k) := bD.at_ 0
      have d1 : wr.cell? ⟨w.heap.size, 1, none⟩ = some (.int .u64 r) := bD.at_ 1
      have d2 : wr.cell? ⟨w.heap.size, 2, none⟩ = some (.int .i64 mm) := bD.at_ 2
      have d3 : wr.cell? ⟨w.heap.size, 3, none⟩ = some (.slice A N cap) := bD.at_ 3
      have hgs1 : gs < w1.heap.size := HROW.out.lt
      have hgb1 := HO.out.lt
      have hws := HK0.out.size
      have hws1 := K1.out.size
      have hrc := HRC.out gs w1.heap.size wr.heap.size wr ⟨(HR.out.nil HK0.out).nil kk, HROW.out.keep HK.out (fun h => h), fun hne a ha h => by
        have := HFAR.out hne a ha
        have := HK.out.size
        omega, by have := HK.out.size; omega, hgb1, Nat.le_refl _⟩ ⟨World.ownsRow_nil _ _ _ _⟩ HO.out
      have HRC2 := Hid.intro_ hrc
      have KK := Hid.intro_ (HK0.out.then_ kk)
      have HSZ : Hid (w.heap.size ≤ w1.heap.size ∧ w.heap.size ≤ wr.heap.size) := Hid.intro_ ⟨by omega, by omega⟩
      clear HRC hrc kk bD
      go_wp2_with fail
      refine HRC2.out.mono ?_
      rintro e w9 hp
      obtain ⟨v9, rfl, hO9, _, k9, hv9⟩ := hp.out
      have HO9 := Hid.intro_ hO9
      have K9 := Hid.intro_ k9
      clear hp hO9 k9
      go_wp2_with fail
      go_ret
      refine ⟨v9, rfl, ⟨?_⟩, ?_⟩
      · have h := HO9.out.out
        have e : [] ++ (cubesN d.P 65537 r (blankL k)).take (m - ([] : List (List Int)).length) = d.cubes.take m := by
          rw [List.nil_append, List.length_nil, Nat.sub_zero, HRR.out, HV.out]
          rfl
        rw [e] at h
        refine ⟨h.1, ?_⟩
        rcases h.2 with h2 | ⟨g, cp, cur, h1, h2, h3⟩
        · exact .inl h2
        · exact .inr ⟨g, cp, cur, h1, Nat.le_trans HSZ.out.2 h2, h3⟩
      · exact KK.out.trans K9.out (fun z hz h => h.elim (fun e => by have := HSZ.out; omega) (fun e => by cases e))
end Go.Proofs.YtadipinnbehhhaaGreatDoor
