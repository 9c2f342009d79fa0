/- NodesAsks: the program's Width at a well-formed file. -/
import Derived.Test.YtadipinnbehhhaaGreatDoorAsksRowAS
namespace Go.Proofs.YtadipinnbehhhaaGreatDoor
open Go.RowKit

set_option maxRecDepth 100000 in
set_option maxHeartbeats 2000000 in
/-- What Width looks at each node with. -/
theorem width_clo (g : Nat) (n : N3) (x : Int) (w : World) (hb : Blk w g 3 #[.int .i64 x]) (hn : n.self < 18446744073709551616) (_hx : 0 ≤ x ∧ x ≤ 1099511627776) :
    Calls Tryz.prog 99 #[.agg #[.int .u64 n.self, .int .u64 n.low, .int .u64 n.high], .pointer (some ⟨g, 0, none⟩)] w fun e w' => e = .returned (.int .i64 0) ∧ Blk w' g 3 #[.int .i64 (max x (sI n.self + 1))] ∧ Keep (fun z => z = g) w w' := by
  obtain ⟨W, hW⟩ : ∃ W, W = w.alloc (.cells #[.int .u64 n.self, .int .u64 n.low, .int .u64 n.high] 46) := ⟨_, rfl⟩
  have kW : Keep Nil w W := by rw [hW]; exact (Keep.refl Nil w).alloc _
  have bW : Blk W w.heap.size 46 #[.int .u64 n.self, .int .u64 n.low, .int .u64 n.high] := by rw [hW]; exact Blk.new w _ _
  have hbW := hb.keep kW (fun h => h)
  have HSP := Hid.intro_ (split_t n.self hn W)
  have hi1 := sI_nn n.self
  have hi2 : sI n.self < 1099511627776 := by unfold sI; split <;> omega
  obtain ⟨id, hid⟩ : ∃ id, id = sI n.self := ⟨_, rfl⟩
  rw [← hid] at HSP hi1 hi2 ⊢
  have hw1 : wrap64 (id + 1) = id + 1 := wrap_low _ (by omega)
  have y0 : W.cell? ⟨w.heap.size, 0, none⟩ = some (.int .u64 n.self) := bW.at_ 0
  have c0 : W.cell? ⟨g, 0, none⟩ = some (.int .i64 x) := hbW.at_ 0
  have f0 := hbW.fr 0
  have HB := Hid.intro_ hbW
  have KW := Hid.intro_ kW
  clear hb kW bW hbW hid hn
  go_enter Tryz.func99, Tryz.ntmps99
  go_upto_region 1 with (fail)
  rw [← hW]
  clear hW
  go_wp2_with (go_at_call 100; refine HSP.out.mono ?_; rintro e w' ⟨rfl, hw⟩; obtain rfl := hw.symm)
  go_ret
  refine ⟨rfl, ?_, ?_⟩
  · exact HB.out.set_ 0 _
  · exact ((KW.out.mono (fun _ _ h => h.elim : ∀ b, b < w.heap.size → Nil b → b = g)).then_ (Keep.refl (fun z => z = g) W)).setCell (p := ⟨g, 0, none⟩) (fun _ => rfl) _
section
variable {c : Cx} {w w' : World} {G : Nat → Prop} {s s' : RSt} {fs : List (ByteArray × AFile)} {name : ByteArray} {d : Dg}
/-- The frame of a walk through the rows. -/
def rwX (c : Cx) (name : ByteArray) (d : Dg) (cb b gw : Nat) (G0 : Nat → Prop) (s0 : RSt) (Y : World) (Q : Nat) : KX :=
  { c := c, name := name, L := recsD d, up := true, d := d, P := d.P, tl := [⟨18446744073709551615, d.v, d.r, d.m⟩], cb := cb, b := b, G0 := G0, s0 := s0, H := fun z => z = gw, Y := Y, Q := Q }
theorem rwX_ok {cb b gw Q j : Nat} {h : Int} {G0 : Nat → Prop} {s0 : RSt} {Y : World} (P : AkP c fs name d s) (hw : Went j h s s0) : KOk (rwX c name d cb b gw G0 s0 Y Q) fs := {
  tape := P.tape
  calm := hw.calm P.calm
  at_ k n hn := P.ok.rows.up_at hn
  len := P.ok.rows.len
  lt := Nat.le_of_lt P.ok.rows.lt
  vars := P.ok.rows.vars
  okn n hn := by
    obtain ⟨a, b, e⟩ := P.ok.rows.okn n hn
    exact ⟨a, b, e, Nat.succ_pos _⟩ }
theorem rwX_start {cb b gw Q q : Nat} {G0 : Nat → Prop} {s0 : RSt} {Y : World} {x : RdSt} (hc : CurAt c Y cb b G0 s0 x { up := true, vars := d.v, root := d.r, nodes := d.m, given := 0, last := ⟨0, 0, 0⟩, dead := 0, done := false }) (hv : RdLive c name 2 (recsD d) false x q (recsD d)) (hq : q ≤ Q) (hg : ¬ G0 gw ∧ gw < Y.heap.size) (hE : Off c.E (fun _ => False) gw) : CuK (rwX c name d cb b gw G0 s0 Y Q) 0 Y := by
  refine CuK.start (X := rwX c name d cb b gw G0 s0 Y Q) hc ?_ hq (fun z hz => by rw [show z = gw from hz]; exact hg) (fun z hz => by rw [show z = gw from hz]; exact hE)
  have e : (rwX c name d cb b gw G0 s0 Y Q).rem 0 = recsD d := rfl
  rw [e]
  exact hv
theorem rwX_end {cb b gw Q : Nat} {G0 : Nat → Prop} {s0 : RSt} {Y : World} (hl : d.P.length = d.m) : (rwX c name d cb b gw G0 s0 Y Q).rem d.m = [⟨18446744073709551615, d.v, d.r, d.m⟩] :=
  KX.rem_end (rwX c name d cb b gw G0 s0 Y Q) (show d.P.length ≤ d.m by omega)
theorem neq_info2 (a b c : Int) (w : World) : (binOp .neq 72 (.agg #[.int .i64 a, .int .u64 b, .int .i64 c]) (.agg #[.int .i64 a, .int .u64 b, .int .i64 c])).run Tryz.prog w = .ok (.bool false) w := by
  rw [run_neq_struct]
  have e : (Op.equalIn 10000 72 (.agg #[.int .i64 a, .int .u64 b, .int .i64 c]) (.agg #[.int .i64 a, .int .u64 b, .int .i64 c])).run Tryz.prog w = .ok true w := by
    go_simp
  rw [e]
  rfl
/-- What rows leaves behind it. -/
structure RowsTo (c : Cx) (G : Nat → Prop) (gw : Nat) (J : Nat) (s : RSt) (w w' : World) : Prop where mk ::
  out : ∃ G' s' j, j ≤ J ∧ Went j 0 s s' ∧ RmAt c w' G' s' ∧ Keep (fun z => G z ∨ z = gw) w w' ∧ ∀ z, G' z → G z ∨ w.heap.size ≤ z
theorem rows_fin {w1 w4 w9 : World} {X : KX} {G4 : Nat → Prop} {gw j4 : Nat} (hX : X.G0 = G4 ∧ X.c = c ∧ X.H = fun z => z = gw) (hw4 : Went j4 c.K s X.s0) (k3 : Keep Nil w w1) (s4 : Stp w1 G w4 G4) (hY : X.Y = w4) (hd : DnK X w9) (J : Nat) (hJ : X.Q + j4 ≤ J) : RowsTo c G gw J s w w9 := by
  obtain ⟨hG, hc, hH⟩ := hX
  obtain ⟨G9, s9, j9, a, b, r⟩ := hd.out
  rw [hc] at r
  have hk := a.keep
  rw [hG, hH, hY] at hk
  have hg := a.grow
  rw [hG, hY] at hg
  have hwn := a.went
  rw [hc] at hwn
  refine ⟨G9, s9, j9 + j4, by omega, (hw4.trans hwn).of_eq rfl (by omega), r, ?_, fun z hz => ?_⟩
  · exact ((k3.mono (fun _ _ h => h.elim : ∀ b, b < w.heap.size → Nil b → (G b ∨ b = gw))).trans s4.keep (fun _ _ h => .inl h)).trans hk (fun z hz hf => hf.elim (fun h => (s4.grow z h).elim .inl (fun e => by have := k3.size; omega)) .inr)
  · rcases hg z hz with h1 | h1
    · rcases s4.grow z h1 with h2 | h2
      · exact .inl h2
      · exact .inr (Nat.le_trans k3.size h2)
    · exact .inr (Nat.le_trans (Nat.le_trans k3.size s4.keep.size) h1)
set_option maxRecDepth 100000 in
set_option maxHeartbeats 16000000 in
theorem rows_w (P : AkP c fs name d s) (h : RmAt c w G s) (gw : Nat) (hg : Blk w gw 3 #[.int .i64 0]) (hoff : Off c.E G gw) :
    Calls Tryz.prog 98 #[.pointer (some ⟨c.k, 0, none⟩), .string name, .agg #[.int .i64 d.v, .int .u64 d.r, .int .i64 d.m], .func (.func 99) #[] #[.pointer (some ⟨gw, 0, none⟩)]] w fun e w' => e = .returned (.int .i64 0) ∧ Blk w' gw 3 #[.int .i64 d.width] ∧ RowsTo c G gw (nblk c.K (recsD d).length) s w w' := by
  obtain ⟨v, hv⟩ : ∃ v, v = d.v := ⟨_, rfl⟩
  obtain ⟨r, hr⟩ : ∃ r, r = d.r := ⟨_, rfl⟩
  obtain ⟨m, hm⟩ : ∃ m, m = d.m := ⟨_, rfl⟩
  obtain ⟨W, hW⟩ : ∃ W, W = w.alloc (.cells #[.int .i64 v, .int .u64 r, .int .i64 m] 72) := ⟨_, rfl⟩
  have kW : Keep Nil w W := by rw [hW]; exact (Keep.refl Nil w).alloc _
  have bW : Blk W w.heap.size 72 #[.int .i64 v, .int .u64 r, .int .i64 m] := by rw [hW]; exact Blk.new w _ _
  have HRD := Hid.intro_ (read_tape (h.nil kW) P.tape P.calm (by decide) P.opn (by rw [P.hand, P.parts]; have := P.lim; omega))
  have hoffi : Off c.E G w.heap.size := Off.new h.env h.lt (Nat.le_refl _)
  have HOFFI := Hid.intro_ hoffi
  have HOFF := Hid.intro_ hoff
  have HGW := Hid.intro_ (hg.keep kW (fun h => h))
  have hgl := hg.lt
  have hWs : W.heap.size = w.heap.size + 1 := by rw [hW]; simp
  have HWS := Hid.intro_ hWs
  have HV := Hid.intro_ hv
  have HR := Hid.intro_ hr
  have HM := Hid.intro_ hm
  have HP := Hid.intro_ P
  have KW := Hid.intro_ kW
  have BW := Hid.intro_ bW
  have hm40 : m ≤ 1099511627776 := by rw [hm]; exact Nat.le_of_lt P.ok.rows.lt
  have hWID := Hid.intro_ (show d.width = widthN d.P d.m from rfl)
  rw [← hv, ← hr, ← hm]
  obtain ⟨nb, hnb⟩ : ∃ nb, nb = nblk c.K (recsD d).length := ⟨_, rfl⟩
  rw [← hnb]
  have HNB := Hid.intro_ hnb
  have HEND := Hid.intro_ (fun W => endof_any 18446744073709551615 v r m (by decide) (by rw [hv]; have := P.ok.rows.vars; omega) (by rw [hr]; exact P.ok.rows.rootlt) (by omega) W)
  have HISE := Hid.intro_ (show isE 18446744073709551615 v r m = true by rw [hv, hr, hm]; exact P.ok.rows.isE)
  clear h P hg hoff hoffi kW bW hv hr hm hnb hWs
  go_enter_defers Tryz.func98, Tryz.ntmps98
  go_upto_region 1 with (fail)
  rw [← hW]
  clear hW
  go_wp2_with fail
  refine HRD.out.mono ?_
  rintro e w4 ⟨b, rfl, hb, ho⟩
  obtain ⟨j4, q4, x4, s4, g1, g2, g3, g4, G4, h4, s4'⟩ := ho.out
  have b4 := BW.out.keep s4'.keep HOFFI.out.1
  have e0 : w4.cell? ⟨w.heap.size, 0, none⟩ = some (.int .i64 v) := b4.at_ 0
  have e1 : w4.cell? ⟨w.heap.size, 1, none⟩ = some (.int .u64 r) := b4.at_ 1
  have e2 : w4.cell? ⟨w.heap.size, 2, none⟩ = some (.int .i64 m) := b4.at_ 2
  have lt4 := b4.lt
  obtain ⟨C, hC⟩ : ∃ C, C = w4.alloc (.cells #[.pointer (some ⟨b, 0, none⟩), .iface 174 (.agg #[]), .int .i64 v, .int .u64 r, .int .i64 m, .int .i64 0, .int .u64 0, .int .u64 0, .int .u64 0, .int .i64 0, .bool false] 195) := ⟨_, rfl⟩
  have kC : Keep Nil w4 C := by rw [hC]; exact (Keep.refl Nil w4).alloc _
  have hcur : CurAt c C w4.heap.size b (fun z => G4 z ∨ z = w4.heap.size) s4 x4 { up := true, vars := d.v, root := d.r, nodes := d.m, given := 0, last := ⟨0, 0, 0⟩, dead := 0, done := false } := by
    refine ⟨⟨G4, rfl, h4.nil kC, Off.new h4.env h4.lt (Nat.le_refl _)⟩, ?_⟩
    rw [hC, ← HV.out, ← HR.out, ← HM.out]
    exact Blk.new w4 _ _
  have sC : Stp W G C (fun z => G4 z ∨ z = w4.heap.size) := ⟨s4'.keep.trans kC (fun _ _ h => h.elim), fun z hz => hz.elim (fun h => s4'.grow z h) (fun e => .inr (by rw [e]; exact s4'.keep.size))⟩
  have hWl := KW.out.size
  have hgW : gw < W.heap.size := by omega
  have hofC := HOFF.out.step hgW sC
  have hglC : gw < C.heap.size := by have := sC.keep.size; omega
  have HST := Hid.intro_ (rwX_start (gw := gw) (Q := q4) hcur g4 (Nat.le_refl _) ⟨hofC.1, hglC⟩ ⟨fun h => h, hofC.2⟩)
  have hKO := Hid.intro_ (rwX_ok (cb := w4.heap.size) (b := b) (gw := gw) (Q := q4) (G0 := (fun z => G4 z ∨ z = w4.heap.size)) (Y := C) HP.out g3)
  have HGC := Hid.intro_ (HGW.out.keep sC.keep HOFF.out.1)
  have HBI := Hid.intro_ (b4.keep kC (fun h => h))
  have HOFI := Hid.intro_ (HOFFI.out.step (by rw [HWS.out]; omega) sC)
  have hgi : ¬ w.heap.size = gw := by omega
  have SC := Hid.intro_ sC
  have G3' := Hid.intro_ g3
  have hle4 := Hid.intro_ g2
  have HGI := Hid.intro_ hgi
  clear ho h4 s4' g3 g4 b4 hcur sC kC hofC hgi
  go_wp2_with fail
  rw [← hC]
  clear hC
  go_wp2_with fail
  go_loopg [] (d.m + 1) (fun gk wr => ∃ (k : Nat), gk = d.m - k + 1 ∧ k ≤ d.m ∧ Hid (CuK (rwX c name d w4.heap.size b gw (fun z => G4 z ∨ z = w4.heap.size) s4 C q4) k wr) ∧ Hid (Blk wr gw 3 #[.int .i64 (widthN d.P k)]))
  case atStart => exact ⟨0, by omega, Nat.zero_le _, HST, HGC⟩
  case round =>
    obtain ⟨k, hgk, hkm, HE, HG⟩ := hrel
    have HGK := Hid.intro_ hgk
    have HKM := Hid.intro_ hkm
    clear hgk hkm
    by_cases hlt : k < d.m
    · have hlen := HP.out.ok.rows.len
      obtain ⟨x, hx⟩ : ∃ x, d.P[k]? = some x := ⟨_, List.getElem?_eq_getElem (by omega)⟩
      have HNX := Hid.intro_ (HE.out.next hKO.out hx)
      have hbd := widthN_bd d.P k
      have hxl := (HP.out.ok.rows.okn x (List.mem_of_getElem? hx)).1
      have HCL := Hid.intro_ (fun W (hb : Blk W gw 3 #[.int .i64 (widthN d.P k)]) => width_clo gw x (widthN d.P k) W hb hxl hbd)
      have hstep : Hid (widthN d.P (k + 1) = max (widthN d.P k) (sI x.self + 1)) := Hid.intro_ (by
        show (match d.P[k]? with | none => _ | some n => _) = _
        rw [hx])
      rw [← hstep.out] at HCL
      unfold ndV at HNX
      have HLT := Hid.intro_ hlt
      clear hlen hx hbd hxl hlt hstep
      go_wp2_with (first
        | (go_at_call 85; refine HNX.out.mono ?_; rintro e wn ⟨rfl, hcn, hks⟩
           have HCN := Hid.intro_ hcn
           have HGN := Hid.intro_ (HG.out.keep hks (fun h => h rfl))
           clear hcn hks)
        | (go_at_call 99; refine (HCL.out _ (HGN.out.alloc _)).mono ?_; rintro e wz ⟨rfl, hbz, hkz⟩
           have HBZ := Hid.intro_ hbz
           have HKZ := Hid.intro_ hkz
           clear hbz hkz))
      go_roundg (d.m - (k + 1) + 1)
      case measure => have := HGK.out; have := HLT.out; omega
      case rel => exact ⟨k + 1, rfl, HLT.out, Hid.intro_ ((HCN.out.nil ((Keep.refl Nil wn).alloc _)).aside HKZ.out), HBZ⟩
    · have hke : k = d.m := by have := HKM.out; omega
      rw [hke] at HE HG
      have HNX := Hid.intro_ (HE.out.last hKO.out)
      unfold ndV at HNX
      clear hlt hke
      have hren : (rwX c name d w4.heap.size b gw (fun z => G4 z ∨ z = w4.heap.size) s4 C q4).rem d.m = [⟨18446744073709551615, v, r, m⟩] := by rw [rwX_end HP.out.ok.rows.len, HV.out, HR.out, HM.out]
      have HREN := Hid.intro_ hren
      have hneq := neq_info2 (v : Int) (r : Int) (m : Int)
      clear hren
      go_wp2_with (first
        | (go_at_call 85; refine HNX.out.mono ?_; rintro e wn ⟨rfl, hcn, hks⟩
           have hrd : RdK (rwX c name d w4.heap.size b gw (fun z => G4 z ∨ z = w4.heap.size) s4 C q4) ((rwX c name d w4.heap.size b gw (fun z => G4 z ∨ z = w4.heap.size) s4 C q4).rem d.m) wn := hcn.rd
           rw [HREN.out] at hrd
           have HRN := Hid.intro_ (RdK.next hKO.out (hrd.nil ((Keep.refl Nil wn).alloc (.cells #[.int .u64 0, .int .u64 0, .int .u64 0] 46))))
           have HGN := Hid.intro_ (HG.out.keep hks (fun h => h rfl))
           unfold R4.val at HRN
           clear hcn hks hrd)
        | (go_at_call 102; refine HRN.out.mono ?_; rintro e wm ⟨rfl, hcn, hks⟩
           have HCN := Hid.intro_ hcn
           have HGM := Hid.intro_ ((HGN.out.alloc (.cells #[.int .u64 0, .int .u64 0, .int .u64 0] 46)).keep hks (fun h => h rfl))
           clear hcn hks)
        | (go_at_call 79; refine (HEND.out _).mono ?_; rintro e wo ⟨x', y', z', rfl, hxyz, hko⟩
           obtain ⟨q1, q2, q3⟩ := hxyz HISE.out
           obtain rfl := q1.symm
           obtain rfl := q2.symm
           obtain rfl := q3.symm
           rw [HISE.out]
           unfold inV
           have kmo := ((Keep.refl Nil wm).alloc (.cells #[.int .u64 18446744073709551615, .int .u64 v, .int .u64 r, .int .u64 m] 111)).then_ hko
           have hco := HCN.out.nil kmo
           have hbi := HBI.out.keep hco.keep (fun hf => hf.elim HOFI.out.1 HGI.out)
           have i0 : wo.cell? ⟨w.heap.size, 0, none⟩ = some (.int .i64 v) := hbi.at_ 0
           have i1 : wo.cell? ⟨w.heap.size, 1, none⟩ = some (.int .u64 r) := hbi.at_ 1
           have i2 : wo.cell? ⟨w.heap.size, 2, none⟩ = some (.int .i64 m) := hbi.at_ 2
           have hbl := hbi.lt
           have HRN2 := Hid.intro_ (RdK.last (hco.nil ((Keep.refl Nil wo).alloc (.cells #[.int .i64 v, .int .u64 r, .int .i64 m] 72))))
           have HGO := Hid.intro_ ((HGM.out.keep kmo (fun h => h)).alloc (.cells #[.int .i64 v, .int .u64 r, .int .i64 m] 72))
           unfold zero4 at HRN2
           clear hxyz hko kmo hco hbi)
        | (go_at_call 102; refine HRN2.out.mono ?_; rintro e wp ⟨rfl, hcn, hks⟩
           have HCP := Hid.intro_ hcn
           have HGP := Hid.intro_ (HGO.out.keep hks (fun h => h rfl))
           clear hcn hks))
      refine leaves_cons (f := 93) (args := #[.pointer (some ⟨b, 0, none⟩)]) (by simp) (by simp [go_sem]) ?_
      refine (RdK.close (X := rwX c name d w4.heap.size b gw (fun z => G4 z ∨ z = w4.heap.size) s4 C q4) .returning (HCP.out.nil ((Keep.refl Nil wp).alloc _)) (by show s4.S.closed = false; rw [G3'.out.closed]; exact HP.out.opn) (by show (c.K : Int) ≤ s4.S.hand; rw [G3'.out.hand, HP.out.hand]; omega)).mono ?_
      rintro e u' w9 ⟨rfl, rfl, hdn, hks⟩
      refine ⟨.int .i64 0, by simp [results, Tryz.results98, go_sem], rfl, ?_, ?_⟩
      · rw [hWID.out]
        exact (HGP.out.alloc _).keep hks (fun h => h rfl)
      · exact rows_fin (X := rwX c name d w4.heap.size b gw (fun z => G4 z ∨ z = w4.heap.size) s4 C q4) ⟨rfl, rfl, rfl⟩ G3'.out KW.out SC.out rfl hdn _ (by show q4 + j4 ≤ nb; have := hle4.out; have := HNB.out; omega)
theorem RowsTo.went {w3 V w9 : World} {G3 : Nat → Prop} {s3 : RSt} {gw j J : Nat} (hw : Went j 0 s s3) (s1 : Stp w G w3 G3) (k3 : Keep Nil w3 V) (hg : w3.heap.size ≤ gw) (h : RowsTo c G3 gw J s3 V w9) (J2 : Nat) (hJ : J + j ≤ J2) : WentTo c G J2 0 s w w9 := by
  obtain ⟨G9, s9, j9, hj, hwn, hr, hk, hgr⟩ := h.out
  refine ⟨_, s9, (show j9 + j ≤ J2 by omega), (hw.trans hwn).of_eq rfl (by omega), G9, hr, ?_, fun z hz => ?_⟩
  · have s2 := s1.then_nil k3
    refine s2.keep.trans hk (fun z hz hf => ?_)
    rcases hf with hf | hf
    · rcases s1.grow z hf with h1 | h1
      · exact h1
      · omega
    · have := s1.keep.size; omega
  · rcases hgr z hz with h1 | h1
    · exact s1.grow z h1
    · exact .inr (Nat.le_trans (Nat.le_trans s1.keep.size k3.size) h1)
set_option maxRecDepth 100000 in
set_option maxHeartbeats 8000000 in
theorem width_rm (P : AkP c fs name d s) (h : RmAt c w G s) :
    Calls Tryz.prog 39 #[.pointer (some ⟨c.k, 0, none⟩), .string name] w fun e w' => e = .returned (.tuple #[.int .i64 d.width, .int .i64 0]) ∧ WentTo c G (nblk c.K (recsD d).length + 1) 0 s w w' := by
  have HBG := Hid.intro_ (P.begins h)
  have HLK := Hid.intro_ (fun W G' (h' : RmAt c W G' s) => P.look h')
  have HRW := Hid.intro_ (fun (s3 : RSt) (j : Nat) (hw : Went j 0 s s3) W G' (h' : RmAt c W G' s3) gw (hg : Blk W gw 3 #[.int .i64 0]) (hoff : Off c.E G' gw) => rows_w (P.step hw) h' gw hg hoff)
  obtain ⟨v, hv⟩ : ∃ v, v = d.v := ⟨_, rfl⟩
  obtain ⟨r, hr⟩ : ∃ r, r = d.r := ⟨_, rfl⟩
  obtain ⟨m, hm⟩ : ∃ m, m = d.m := ⟨_, rfl⟩
  obtain ⟨wi, hwi⟩ : ∃ wi, wi = d.width := ⟨_, rfl⟩
  rw [← hv, ← hr, ← hm] at HLK
  rw [← hv, ← hr, ← hm, ← hwi] at HRW
  rw [← hwi]
  have hmf : ∀ (fn : Fn) (first cap : Array Value) (w : World), (Instr.makeFunc fn first cap).run Tryz.prog w = .ok (.func fn first cap) w := fun _ _ _ _ => rfl
  clear h P hv hr hm hwi
  go_enter Tryz.func39, Tryz.ntmps39
  go_wp2_with fail
  refine HBG.out.mono ?_
  rintro e w2 ⟨rfl, G2, h2, s2⟩
  have HL2 := Hid.intro_ (HLK.out w2 G2 h2)
  have S2 := Hid.intro_ s2
  clear h2 s2
  go_wp2_with fail
  refine HL2.out.mono ?_
  rintro e w3 ⟨rfl, j, s3, hj, hw, G3, h3, s3'⟩
  obtain ⟨W, hW⟩ : ∃ W, W = (w3.alloc (.cells #[.int .i64 v, .int .u64 r, .int .i64 m] 72)).alloc (.cells #[.int .i64 0] 3) := ⟨_, rfl⟩
  have kW : Keep Nil w3 W := by rw [hW]; exact ((Keep.refl Nil w3).alloc _).alloc _
  have bW : Blk W (w3.heap.size + 1) 3 #[.int .i64 0] := by rw [hW]; exact Blk.new_at _ _ _ (by simp)
  have iW : Blk W w3.heap.size 72 #[.int .i64 v, .int .u64 r, .int .i64 m] := by rw [hW]; exact (Blk.new w3 _ _).alloc _
  have i0 : W.cell? ⟨w3.heap.size, 0, none⟩ = some (.int .i64 v) := iW.at_ 0
  have i1 : W.cell? ⟨w3.heap.size, 1, none⟩ = some (.int .u64 r) := iW.at_ 1
  have i2 : W.cell? ⟨w3.heap.size, 2, none⟩ = some (.int .i64 m) := iW.at_ 2
  have HRX := Hid.intro_ (HRW.out s3 j hw W G3 (h3.nil kW) _ bW (Off.new h3.env h3.lt (by omega)))
  have S3 := Hid.intro_ (S2.out.trans s3')
  have HW := Hid.intro_ hw
  have KW := Hid.intro_ kW
  clear h3 hw s3' kW bW iW
  go_upto_region 8 with (fail)
  rw [← hW]
  clear hW
  go_wp2_with fail
  refine HRX.out.mono ?_
  rintro e w9 ⟨rfl, hb9, hto⟩
  have y0 : w9.cell? ⟨w3.heap.size + 1, 0, none⟩ = some (.int .i64 wi) := hb9.at_ 0
  have HTO := Hid.intro_ hto
  clear hb9 hto
  go_wp2_with fail
  go_ret2
  exact ⟨rfl, RowsTo.went HW.out S3.out KW.out (by omega) HTO.out _ (by omega)⟩
end
end Go.Proofs.YtadipinnbehhhaaGreatDoor
