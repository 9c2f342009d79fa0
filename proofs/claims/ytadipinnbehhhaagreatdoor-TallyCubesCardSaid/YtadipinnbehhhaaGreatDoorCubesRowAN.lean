/- Parts of the proof: CurN LiveC LawF LawUp GoOn Goes Ask MoDone MoAdd Step Step2 Law RdFiles Stray1 RdPlain Quiet LawUpU LawUpD ReadsOn ReadsLaw Row Door ReadsOpen. -/
import Derived.Deep.CutBlock
import Derived.Test.YtadipinnbehhhaaGreatDoorRows
import Derived.ProofKit
import Derived.LaidMore
import Derived.OpenShut
import Derived.LaidLaws
import Derived.Stop.Joined
import Derived.Stop.LaidErr
import Derived.Deep.Slices
import Derived.Test.YtadipinnbehhhaaGreatDoorCubesRowAM
import Derived.Test.YtadipinnbehhhaaGreatDoorCubesRowAL
import Derived.Test.YtadipinnbehhhaaGreatDoorCubesRowAH
import Derived.Test.YtadipinnbehhhaaGreatDoorCubesRowAC
namespace Go.Proofs.YtadipinnbehhhaaGreatDoor
open Go.RowKit

set_option maxHeartbeats 1000000 in
theorem deadly_shape (w : World) : Calls Tryz.prog 159 #[.int .i64 72] w fun e w' => e = .returned (.bool true) ∧ w' = w := by
  go_enter Tryz.func159, Tryz.ntmps159
  go_wp2
  go_ret
  exact ⟨rfl, rfl⟩
def AskedN (W : World) (r : R4) (ok : Bool) (v8 v9 : Value) (wd : World) : Prop := ∃ T x y z : Nat, v8 = .pointer (some ⟨T, 0, none⟩) ∧ v9 = .bool ok ∧ Keep Nil W wd ∧ Blk wd T 46 #[.int .u64 x, .int .u64 y, .int .u64 z] ∧ W.heap.size ≤ T ∧ (ok = true → x = r.a ∧ y = r.b ∧ z = r.c)
section
variable {c : Cx} {w w' w2 : World} {cb b : Nat} {G G' : Nat → Prop} {s s' : RSt} {x x' : RdSt} {y y' : CuSt} {fs : List (ByteArray × AFile)} {name : ByteArray} {L rem : List R4} {q : Nat} {l : List N3} {bad : Bool}

set_option maxRecDepth 100000 in
set_option maxHeartbeats 8000000 in
theorem cnext_rec {r : R4} {rest : List R4} (h : CurAt c w cb b G s x y) (hv : RdLive c name 2 L (!y.up) x q rem) (ht : TapeOn c fs name 2 L) (hcm : Calm s.D c.block fs) (hr : rem = r :: rest) (hd : y.done = false) (hz : y.dead = 0) (hg : y.given < y.nodes) (hn40 : y.nodes ≤ 1099511627776) (hvars : y.vars ≤ 65536) (hin : 0 < y.given → sIn y.last.self = true)
    (hro : r.Ok) (B : Bool) (hB : B = (r.isN y.vars && fitsB y.up y.root y.nodes y.given y.last r.n3)) :
    Calls Tryz.prog 85 #[.pointer (some ⟨cb, 0, none⟩)] w fun e w' => ∃ j q' x', j ≤ 1 ∧ q' + j = q ∧ RdLive c name 2 L (!y.up) x' q' rest ∧
      ((B = true ∧ e = .returned (.tuple #[ndV r.a r.b r.c, .bool true, .int .i64 0]) ∧ CurTo c cb b G { s with D := s.D.readsN j } x' { y with last := r.n3, given := y.given + 1 } w w') ∨
       (B = false ∧ e = .returned (.tuple #[ndV 0 0 0, .bool false, .int .i64 72]) ∧ CurTo c cb b G { s with D := s.D.readsN j } x' { y with dead := 72 } w w')) := by
  obtain ⟨W, hW⟩ : ∃ W, W = w.alloc (.cells #[.int .u64 0, .int .u64 0, .int .u64 0] 46) := ⟨_, rfl⟩
  have kW : Keep Nil w W := by rw [hW]; exact (Keep.refl Nil w).alloc _
  have hbW := h.blk.keep kW (fun h => h)
  have hlt := h.blk.lt
  have HNX := Hid.intro_ (fun (W1 : World) (k1 : Keep Nil W W1) => show Calls Tryz.prog 102 #[.pointer (some ⟨b, 0, none⟩)] W1 fun e w2 => e = .returned (.tuple #[r.val, .bool true, .int .i64 0]) ∧ ∃ j q' x', j ≤ 1 ∧ q' + j = q ∧ RdLive c name 2 L (!y.up) x' q' rest ∧ CurTo c cb b G { s with D := s.D.readsN j } x' y W1 w2 by
    obtain ⟨Gr, hrd, _, hvia⟩ := ((h.nil kW).nil k1).via
    refine (next_live hrd hv ht hcm hr).mono fun e w2 ⟨he, hq⟩ => ?_
    obtain ⟨j, q', x', h1, h2, h3, h4⟩ := hq.out
    exact ⟨he, j, q', x', h1, h2, h3, hvia _ _ _ h4⟩)
  have c10 : W.cell? ⟨cb, 10, none⟩ = some (.bool false) := by rw [← hd]; exact hbW.at_ 10
  have c9 : W.cell? ⟨cb, 9, none⟩ = some (.int .i64 0) := by rw [← hz]; exact hbW.at_ 9
  have c5 : W.cell? ⟨cb, 5, none⟩ = some (.int .i64 y.given) := hbW.at_ 5
  have c4 : W.cell? ⟨cb, 4, none⟩ = some (.int .i64 y.nodes) := hbW.at_ 4
  have c0 : W.cell? ⟨cb, 0, none⟩ = some (.pointer (some ⟨b, 0, none⟩)) := hbW.at_ 0
  have qg : ((y.given : Int) == (y.nodes : Int)) = false := by
    have : ¬ (y.given : Int) = (y.nodes : Int) := by omega
    simpa using this
  have HH := Hid.intro_ h
  have HRO := Hid.intro_ hro
  have HIN := Hid.intro_ hin
  have HNO := Hid.intro_ (fun W2 => nodeof_any r.a r.b r.c r.d y.vars (by omega) hro.a hro.b hro.c W2)
  have HD := Hid.intro_ hd
  have HZ := Hid.intro_ hz
  unfold R4.val rcV ndV at *
  have HBB := Hid.intro_ hB
  clear h hv ht hcm hr hd hz hin hro hB
  go_enter Tryz.func85, Tryz.ntmps85
  go_upto_region 1 with (fail)
  rw [← hW]
  have HW := Hid.intro_ hW
  clear hW
  go_wp2_with fail
  go_quiet (fail)
  obtain ⟨W1, k1, hW1⟩ : ∃ W1, Keep Nil W W1 ∧ W1 = W.drewN nq := ⟨_, (Keep.refl Nil W).drewN _, rfl⟩
  rw [← hW1]
  have d0 := cell_keep c0 k1 (fun h => h)
  have HN1 := Hid.intro_ (HNX.out W1 k1)
  have K1 := Hid.intro_ k1
  clear c10 c9 c5 c4 c0 hW1 k1 HNX hbW
  go_wp2_with fail
  refine HN1.out.mono ?_
  rintro e w2 ⟨rfl, j, q', x', hj1, hj, hv', hto⟩
  -- the world where the rest begins, and the cell of the result
  have hb0 : Blk w2 w.heap.size 46 #[.int .u64 0, .int .u64 0, .int .u64 0] := by
    obtain ⟨G1, h1, s1⟩ := hto
    have hbW : Blk W w.heap.size 46 #[.int .u64 0, .int .u64 0, .int .u64 0] := by rw [HW.out]; exact Blk.new w _ _
    exact (hbW.keep K1.out (fun h => h)).keep s1.keep (fun hg => Nat.lt_irrefl _ (HH.out.lt _ hg))
  have hfin : Hid (∀ X y', Keep (fun z => z = w.heap.size ∨ z = cb) w2 X → Blk X cb 195 (cuCells b y') → CurTo c cb b G { s with D := s.D.readsN j } x' y' w X) := Hid.intro_ (fun X y' kX hbX => by
    obtain ⟨G1, h1, s1⟩ := hto
    have s0 := (Stp.of_nil (kW.then_ K1.out) G).trans s1
    have hGcb : G cb := by
      obtain ⟨G0', hG, _, _⟩ := HH.out.out
      rw [hG]
      exact .inr rfl
    have h9 : w.heap.size < W.heap.size := by rw [HW.out]; simp
    have h8 := K1.out.size
    have off1 : Off c.E G1 w.heap.size := (Off.new HH.out.env HH.out.lt (Nat.le_refl _)).step (w := W1) (by omega) s1
    obtain ⟨G0, rfl, hw, nb⟩ := h1.out
    refine ⟨_, ⟨⟨G0, rfl, hw.keep kX (fun z hz => ?_), nb⟩, hbX⟩, ?_⟩
    · rcases hz with e | e
      · rw [e]; exact ⟨fun hg => off1.1 (.inl hg), off1.2⟩
      · rw [e]; exact nb
    · refine ⟨s0.keep.trans kX (fun z hz e => ?_), s0.grow⟩
      rcases e with e | e
      · omega
      · rw [e]; exact hGcb)
  have hb1 : Blk w2 cb 195 (cuCells b y) := by
    obtain ⟨G1, h1, s1⟩ := hto
    exact h1.blk
  have HB0 := Hid.intro_ hb0
  have HB1 := Hid.intro_ hb1
  have HV := Hid.intro_ hv'
  clear hto hv' kW
  obtain ⟨W2, hW2⟩ : ∃ W2, W2 = w2.alloc (.cells #[.int .u64 r.a, .int .u64 r.b, .int .u64 r.c, .int .u64 r.d] 111) := ⟨_, rfl⟩
  have kW2 : Keep Nil w2 W2 := by rw [hW2]; exact (Keep.refl Nil w2).alloc _
  have bR : Blk W2 w2.heap.size 111 #[.int .u64 r.a, .int .u64 r.b, .int .u64 r.c, .int .u64 r.d] := by rw [hW2]; exact Blk.new w2 _ _
  have v2 : W2.cell? ⟨cb, 2, none⟩ = some (.int .i64 y.vars) := (hb1.keep kW2 (fun h => h)).at_ 2
  have r0 : W2.cell? ⟨w2.heap.size, 0, none⟩ = some (.int .u64 r.a) := bR.at_ 0
  have r1 : W2.cell? ⟨w2.heap.size, 1, none⟩ = some (.int .u64 r.b) := bR.at_ 1
  have r2 : W2.cell? ⟨w2.heap.size, 2, none⟩ = some (.int .u64 r.c) := bR.at_ 2
  have r3 : W2.cell? ⟨w2.heap.size, 3, none⟩ = some (.int .u64 r.d) := bR.at_ 3
  have KW2 := Hid.intro_ kW2
  obtain ⟨ok, hok⟩ : ∃ ok, ok = isN r.a r.b r.c r.d y.vars := ⟨_, rfl⟩
  rw [← hok] at HNO
  have HOK := Hid.intro_ hok
  clear hb0 hb1 kW2 bR hok
  have lt0 := HB0.out.lt
  have lt1 := HB1.out.lt
  have hne : ¬ cb = w.heap.size := by omega
  have hne2 : ¬ w.heap.size = cb := by omega
  have hW2s := Hid.intro_ (show W2.heap.size = w2.heap.size + 1 by rw [hW2]; simp)
  have hbad : Hid (∀ V, Keep Nil w2 V → ∀ X, X = (((V.setCell ⟨cb, 9, none⟩ (.int .i64 72)).setCell ⟨w.heap.size, 0, none⟩ (.int .u64 0)).setCell ⟨w.heap.size, 1, none⟩ (.int .u64 0)).setCell ⟨w.heap.size, 2, none⟩ (.int .u64 0) →
      X.cell? ⟨w.heap.size, 0, none⟩ = some (.int .u64 0) ∧ X.cell? ⟨w.heap.size, 1, none⟩ = some (.int .u64 0) ∧ X.cell? ⟨w.heap.size, 2, none⟩ = some (.int .u64 0) ∧ CurTo c cb b G { s with D := s.D.readsN j } x' { y with dead := 72 } w X) := Hid.intro_ (fun V kV X hX => by
    have k1 := (kV.mono (G := fun z => z = w.heap.size ∨ z = cb) (fun _ _ h => h.elim)).setCell (p := ⟨cb, 9, none⟩) (fun _ => .inr rfl) (.int .i64 72)
    have k2 := ((k1.setCell (p := ⟨w.heap.size, 0, none⟩) (fun _ => .inl rfl) (.int .u64 0)).setCell (p := ⟨w.heap.size, 1, none⟩) (fun _ => .inl rfl) (.int .u64 0)).setCell (p := ⟨w.heap.size, 2, none⟩) (fun _ => .inl rfl) (.int .u64 0)
    have b1 := (HB1.out.keep kV (fun h => h)).set_ 9 (.int .i64 72)
    have b2 := ((b1.far (p := ⟨w.heap.size, 0, none⟩) hne (.int .u64 0)).far (p := ⟨w.heap.size, 1, none⟩) hne (.int .u64 0)).far (p := ⟨w.heap.size, 2, none⟩) hne (.int .u64 0)
    have r1 := (HB0.out.keep kV (fun h => h)).far (p := ⟨cb, 9, none⟩) hne2 (.int .i64 72)
    have r2 := ((r1.set_ 0 (.int .u64 0)).set_ 1 (.int .u64 0)).set_ 2 (.int .u64 0)
    subst hX
    exact ⟨r2.at_ 0, r2.at_ 1, r2.at_ 2, hfin.out _ { y with dead := 72 } k2 b2⟩)
  have hgood : Hid (∀ V, Keep Nil w2 V → ∀ X, X = (((((((V.setCell ⟨cb, 6, none⟩ (.int .u64 r.a)).setCell ⟨cb, 7, none⟩ (.int .u64 r.b)).setCell ⟨cb, 8, none⟩ (.int .u64 r.c)).setCell ⟨cb, 5, none⟩ (.int .i64 ((y.given : Int) + 1))).setCell ⟨w.heap.size, 0, none⟩ (.int .u64 r.a)).setCell ⟨w.heap.size, 1, none⟩ (.int .u64 r.b)).setCell ⟨w.heap.size, 2, none⟩ (.int .u64 r.c)) →
      X.cell? ⟨w.heap.size, 0, none⟩ = some (.int .u64 r.a) ∧ X.cell? ⟨w.heap.size, 1, none⟩ = some (.int .u64 r.b) ∧ X.cell? ⟨w.heap.size, 2, none⟩ = some (.int .u64 r.c) ∧ CurTo c cb b G { s with D := s.D.readsN j } x' { y with last := r.n3, given := y.given + 1 } w X) := Hid.intro_ (fun V kV X hX => by
    have k1 := ((((kV.mono (G := fun z => z = w.heap.size ∨ z = cb) (fun _ _ h => h.elim)).setCell (p := ⟨cb, 6, none⟩) (fun _ => .inr rfl) (.int .u64 r.a)).setCell (p := ⟨cb, 7, none⟩) (fun _ => .inr rfl) (.int .u64 r.b)).setCell (p := ⟨cb, 8, none⟩) (fun _ => .inr rfl) (.int .u64 r.c)).setCell (p := ⟨cb, 5, none⟩) (fun _ => .inr rfl) (.int .i64 ((y.given : Int) + 1))
    have k2 := ((k1.setCell (p := ⟨w.heap.size, 0, none⟩) (fun _ => .inl rfl) (.int .u64 r.a)).setCell (p := ⟨w.heap.size, 1, none⟩) (fun _ => .inl rfl) (.int .u64 r.b)).setCell (p := ⟨w.heap.size, 2, none⟩) (fun _ => .inl rfl) (.int .u64 r.c)
    have b1 := ((((HB1.out.keep kV (fun h => h)).set_ 6 (.int .u64 r.a)).set_ 7 (.int .u64 r.b)).set_ 8 (.int .u64 r.c)).set_ 5 (.int .i64 ((y.given : Int) + 1))
    have b2 := ((b1.far (p := ⟨w.heap.size, 0, none⟩) hne (.int .u64 r.a)).far (p := ⟨w.heap.size, 1, none⟩) hne (.int .u64 r.b)).far (p := ⟨w.heap.size, 2, none⟩) hne (.int .u64 r.c)
    have r1 := ((((HB0.out.keep kV (fun h => h)).far (p := ⟨cb, 6, none⟩) hne2 (.int .u64 r.a)).far (p := ⟨cb, 7, none⟩) hne2 (.int .u64 r.b)).far (p := ⟨cb, 8, none⟩) hne2 (.int .u64 r.c)).far (p := ⟨cb, 5, none⟩) hne2 (.int .i64 ((y.given : Int) + 1))
    have r2 := ((r1.set_ 0 (.int .u64 r.a)).set_ 1 (.int .u64 r.b)).set_ 2 (.int .u64 r.c)
    subst hX
    exact ⟨r2.at_ 0, r2.at_ 1, r2.at_ 2, hfin.out _ { y with last := r.n3, given := y.given + 1 } k2 (by simpa [cuCells, R4.n3] using b2)⟩)
  go_upto_region 8 with (fail)
  rw [← hW2]
  clear hW2
  go_cut [8, 9] from 49 to 57 (fun v8 v9 wd => AskedN W2 r ok v8 v9 wd)
  case first =>
    have e0 := World.new_ne W2 _ r0
    have e2 := World.new_ne W2 _ v2
    simp only at e0 e2
    go_region_held3 (fun w' => w'.cell? ⟨cb, 2, none⟩ = some (.int .i64 y.vars) ∧ w'.cell? ⟨w2.heap.size, 0, none⟩ = some (.int .u64 r.a) ∧ w'.cell? ⟨w2.heap.size, 1, none⟩ = some (.int .u64 r.b) ∧ w'.cell? ⟨w2.heap.size, 2, none⟩ = some (.int .u64 r.c) ∧ w'.cell? ⟨w2.heap.size, 3, none⟩ = some (.int .u64 r.d))
      (first | exact ⟨v2, r0, r1, r2, r3⟩ | exact hS2.out | go_keep)
      (first
        | (go_at_call 157; refine (HNO.out _).mono ?_; rintro e w3 ⟨a1, a2, a3, rfl, ha, k2⟩
           have kz := (Keep.refl Nil W2).drew.then_ k2
           have x0' := cell_keep v2 kz (fun h => h)
           have p0' := cell_keep r0 kz (fun h => h)
           have p1' := cell_keep r1 kz (fun h => h)
           have p2' := cell_keep r2 kz (fun h => h)
           have p3' := cell_keep r3 kz (fun h => h)
           have e0' := World.new_ne w3 _ x0'
           have e2' := World.new_ne w3 _ p0'
           simp only at e0' e2'
           have hS2 := Hid.intro_ (And.intro x0' (And.intro p0' (And.intro p1' (And.intro p2' p3'))))
           have KZ := Hid.intro_ kz
           have HAA := Hid.intro_ ha
           have HLE := Hid.intro_ kz.size
           clear k2 kz ha)
        | (go_at_call 157; refine (HNO.out _).mono ?_; rintro e w3 ⟨a1, a2, a3, rfl, ha, k2⟩
           have kz := ((Keep.refl Nil W2).alloc (.cells #[.int .u64 0, .int .u64 0, .int .u64 0] 46)).drew.then_ k2
           have x0' := cell_keep v2 kz (fun h => h)
           have p0' := cell_keep r0 kz (fun h => h)
           have p1' := cell_keep r1 kz (fun h => h)
           have p2' := cell_keep r2 kz (fun h => h)
           have p3' := cell_keep r3 kz (fun h => h)
           have bz := (Blk.new W2 46 #[.int .u64 0, .int .u64 0, .int .u64 0]).drew.keep k2 (fun h => h)
           have z0 : w3.cell? ⟨W2.heap.size, 0, none⟩ = some (.int .u64 0) := bz.at_ 0
           have z1 : w3.cell? ⟨W2.heap.size, 1, none⟩ = some (.int .u64 0) := bz.at_ 1
           have z2 : w3.cell? ⟨W2.heap.size, 2, none⟩ = some (.int .u64 0) := bz.at_ 2
           have zf0 := bz.fr 0
           have zf1 := bz.fr 1
           have zf2 := bz.fr 2
           have hS2 := Hid.intro_ (And.intro x0' (And.intro p0' (And.intro p1' (And.intro p2' p3'))))
           have KZ := Hid.intro_ kz
           have BZ := Hid.intro_ bz
           have HAA := Hid.intro_ ha
           clear k2 kz bz ha))
    all_goals
      go_wp2_with fail
      go_meet
      first
        | exact ⟨w3.heap.size, a1, a2, a3, rfl, rfl, KZ.out.alloc _, Blk.new w3 _ _, HLE.out, HAA.out⟩
        | exact ⟨W2.heap.size, a1, a2, a3, rfl, rfl, ((KZ.out.setCell (p := ⟨W2.heap.size, 0, none⟩) (fun h => absurd h (Nat.lt_irrefl _)) _).setCell (p := ⟨W2.heap.size, 1, none⟩) (fun h => absurd h (Nat.lt_irrefl _)) _).setCell (p := ⟨W2.heap.size, 2, none⟩) (fun h => absurd h (Nat.lt_irrefl _)) _, ((BZ.out.set_ 0 _).set_ 1 _).set_ 2 _, Nat.le_refl _, HAA.out⟩
  case rest =>
    obtain ⟨T, a1, a2, a3, rfl, rfl, kT, bT, hT, ha⟩ := hcut
    have hTw : w2.heap.size < T := by have := hW2s.out; omega
    have hTn1 : ¬ T = cb := by omega
    have hTn2 : ¬ T = w.heap.size := by omega
    have hTn3 : ¬ cb = T := by omega
    have hTn4 : ¬ w.heap.size = T := by omega
    have KT := Hid.intro_ (KW2.out.then_ kT)
    have HAA := Hid.intro_ ha
    have BT := Hid.intro_ bT
    clear v2 r0 r1 r2 r3 kT bT ha hT hTw
    have hdead := deadly_shape
    cases ok
    · have HBF := Hid.intro_ (show B = false by rw [HBB.out]; unfold R4.isN; rw [← HOK.out]; rfl)
      have hbX := HB1.out.keep KT.out (fun h => h)
      have rX := HB0.out.keep KT.out (fun h => h)
      have tX := BT.out
      have x9 : wc.cell? ⟨cb, 9, none⟩ = some (.int .i64 0) := by rw [← HZ.out]; exact hbX.at_ 9
      have x5 : wc.cell? ⟨cb, 5, none⟩ = some (.int .i64 y.given) := hbX.at_ 5
      have x6 : wc.cell? ⟨cb, 6, none⟩ = some (.int .u64 y.last.self) := hbX.at_ 6
      have x7 : wc.cell? ⟨cb, 7, none⟩ = some (.int .u64 y.last.low) := hbX.at_ 7
      have x8 : wc.cell? ⟨cb, 8, none⟩ = some (.int .u64 y.last.high) := hbX.at_ 8
      have f5 := hbX.fr 5
      have f6 := hbX.fr 6
      have f7 := hbX.fr 7
      have f8 := hbX.fr 8
      have f9 := hbX.fr 9
      have z0 : wc.cell? ⟨w.heap.size, 0, none⟩ = some (.int .u64 0) := rX.at_ 0
      have z1 : wc.cell? ⟨w.heap.size, 1, none⟩ = some (.int .u64 0) := rX.at_ 1
      have z2 : wc.cell? ⟨w.heap.size, 2, none⟩ = some (.int .u64 0) := rX.at_ 2
      have g0 := rX.fr 0
      have g1 := rX.fr 1
      have g2 := rX.fr 2
      have t0 : wc.cell? ⟨T, 0, none⟩ = some (.int .u64 a1) := tX.at_ 0
      have t1 : wc.cell? ⟨T, 1, none⟩ = some (.int .u64 a2) := tX.at_ 1
      have t2 : wc.cell? ⟨T, 2, none⟩ = some (.int .u64 a3) := tX.at_ 2
      clear hbX rX tX
      go_wp2_with (go_at_call 159; refine (hdead _).mono ?_; rintro e w' ⟨rfl, hw⟩; obtain rfl := hw.symm)
      generalize hXX : (((wc.setCell ⟨cb, 9, none⟩ (.int .i64 72)).setCell ⟨w.heap.size, 0, none⟩ (.int .u64 0)).setCell ⟨w.heap.size, 1, none⟩ (.int .u64 0)).setCell ⟨w.heap.size, 2, none⟩ (.int .u64 0) = X9 at *
      obtain ⟨y0, y1, y2, hto⟩ := hbad.out wc KT.out X9 hXX.symm
      refine bodyPost_ret (v := .tuple #[.agg #[.int .u64 0, .int .u64 0, .int .u64 0], .bool false, .int .i64 72]) (by simp [results, Tryz.results85, go_sem, y0, y1, y2]) rfl ⟨j, q', x', hj1, hj, HV.out, .inr ⟨HBF.out, rfl, hto⟩⟩
    · obtain ⟨rfl, rfl, rfl⟩ := HAA.out rfl
      obtain ⟨F, hF⟩ : ∃ F, F = fitsB y.up y.root y.nodes y.given y.last r.n3 := ⟨_, rfl⟩
      have HBF := Hid.intro_ (show B = F by rw [HBB.out, hF]; unfold R4.isN; rw [← HOK.out]; rfl)
      have hft := fits_any b cb y r.n3 wc (HB1.out.keep KT.out (fun h => h)) (isN_in (by rw [← HOK.out] : isN r.a r.b r.c r.d y.vars = true)) HIN.out (by omega)
      rw [← hF] at hft
      unfold ndV R4.n3 at hft
      have HFT := Hid.intro_ hft
      have tX := BT.out
      have t0 : wc.cell? ⟨T, 0, none⟩ = some (.int .u64 r.a) := tX.at_ 0
      have t1 : wc.cell? ⟨T, 1, none⟩ = some (.int .u64 r.b) := tX.at_ 1
      have t2 : wc.cell? ⟨T, 2, none⟩ = some (.int .u64 r.c) := tX.at_ 2
      clear hft hF tX
      go_wp2_with fail
      refine HFT.out.mono ?_
      rintro e w5 ⟨rfl, k5⟩
      have K5 := Hid.intro_ (KT.out.then_ k5)
      have tX := BT.out.keep k5 (fun h => h)
      have hbX := HB1.out.keep K5.out (fun h => h)
      have rX := HB0.out.keep K5.out (fun h => h)
      clear t0 t1 t2 k5
      have x9 : w5.cell? ⟨cb, 9, none⟩ = some (.int .i64 0) := by rw [← HZ.out]; exact hbX.at_ 9
      have x5 : w5.cell? ⟨cb, 5, none⟩ = some (.int .i64 y.given) := hbX.at_ 5
      have x6 : w5.cell? ⟨cb, 6, none⟩ = some (.int .u64 y.last.self) := hbX.at_ 6
      have x7 : w5.cell? ⟨cb, 7, none⟩ = some (.int .u64 y.last.low) := hbX.at_ 7
      have x8 : w5.cell? ⟨cb, 8, none⟩ = some (.int .u64 y.last.high) := hbX.at_ 8
      have f5 := hbX.fr 5
      have f6 := hbX.fr 6
      have f7 := hbX.fr 7
      have f8 := hbX.fr 8
      have f9 := hbX.fr 9
      have z0 : w5.cell? ⟨w.heap.size, 0, none⟩ = some (.int .u64 0) := rX.at_ 0
      have z1 : w5.cell? ⟨w.heap.size, 1, none⟩ = some (.int .u64 0) := rX.at_ 1
      have z2 : w5.cell? ⟨w.heap.size, 2, none⟩ = some (.int .u64 0) := rX.at_ 2
      have g0 := rX.fr 0
      have g1 := rX.fr 1
      have g2 := rX.fr 2
      have t0 : w5.cell? ⟨T, 0, none⟩ = some (.int .u64 r.a) := tX.at_ 0
      have t1 : w5.cell? ⟨T, 1, none⟩ = some (.int .u64 r.b) := tX.at_ 1
      have t2 : w5.cell? ⟨T, 2, none⟩ = some (.int .u64 r.c) := tX.at_ 2
      have wg : wrap64 ((y.given : Int) + 1) = (y.given : Int) + 1 := wrap_low _ (by omega)
      clear hbX rX tX
      cases F
      · go_wp2_with (go_at_call 159; refine (hdead _).mono ?_; rintro e w' ⟨rfl, hw⟩; obtain rfl := hw.symm)
        generalize hXX : (((w5.setCell ⟨cb, 9, none⟩ (.int .i64 72)).setCell ⟨w.heap.size, 0, none⟩ (.int .u64 0)).setCell ⟨w.heap.size, 1, none⟩ (.int .u64 0)).setCell ⟨w.heap.size, 2, none⟩ (.int .u64 0) = X9 at *
        obtain ⟨y0, y1, y2, hto⟩ := hbad.out w5 K5.out X9 hXX.symm
        refine bodyPost_ret (v := .tuple #[.agg #[.int .u64 0, .int .u64 0, .int .u64 0], .bool false, .int .i64 72]) (by simp [results, Tryz.results85, go_sem, y0, y1, y2]) rfl ⟨j, q', x', hj1, hj, HV.out, .inr ⟨HBF.out, rfl, hto⟩⟩
      · go_wp2_with fail
        generalize hXX : (((((((w5.setCell ⟨cb, 6, none⟩ (.int .u64 r.a)).setCell ⟨cb, 7, none⟩ (.int .u64 r.b)).setCell ⟨cb, 8, none⟩ (.int .u64 r.c)).setCell ⟨cb, 5, none⟩ (.int .i64 ((y.given : Int) + 1))).setCell ⟨w.heap.size, 0, none⟩ (.int .u64 r.a)).setCell ⟨w.heap.size, 1, none⟩ (.int .u64 r.b)).setCell ⟨w.heap.size, 2, none⟩ (.int .u64 r.c)) = X9 at *
        obtain ⟨y0, y1, y2, hto⟩ := hgood.out w5 K5.out X9 hXX.symm
        refine bodyPost_ret (v := .tuple #[.agg #[.int .u64 r.a, .int .u64 r.b, .int .u64 r.c], .bool true, .int .i64 0]) (by simp [results, Tryz.results85, go_sem, y0, y1, y2]) rfl ⟨j, q', x', hj1, hj, HV.out, .inl ⟨HBF.out, rfl, hto⟩⟩
end
end Go.Proofs.YtadipinnbehhhaaGreatDoor
namespace Go.Proofs.YtadipinnbehhhaaGreatDoor
open Go.RowKit

section
variable {c : Cx} {w w' w2 : World} {cb b : Nat} {G G' : Nat → Prop} {s s' : RSt} {x x' : RdSt} {y y' : CuSt} {fs : List (ByteArray × AFile)} {name : ByteArray} {L rem : List R4} {q : Nat} {l : List N3} {bad up : Bool} {v r m : Nat}

end
end Go.Proofs.YtadipinnbehhhaaGreatDoor
namespace Go.Proofs.YtadipinnbehhhaaGreatDoor
open Go.RowKit

theorem rd_at {w : World} {A : Option Addr} {xs : List Value} (h : Rd w A xs) (hne : xs ≠ []) : ∃ g o, A = some ⟨g, o, none⟩ := by
  obtain ⟨u, hu⟩ : ∃ u, xs[0]? = some u := ⟨_, List.getElem?_eq_getElem (List.length_pos_iff.2 hne)⟩
  obtain ⟨⟨g, o, sp⟩, rfl, c0⟩ := h _ _ hu
  have h9 : (Addr.add ⟨g, o, sp⟩ 0) = ⟨g, o, sp⟩ := by simp [Addr.add]
  rw [h9] at c0
  obtain rfl : sp = none := World.cell?_spot c0
  exact ⟨g, o, rfl⟩
theorem rc_ne {L : List R4} (h : L ≠ []) : rcCells L ≠ [] := fun e => by
  have := rcCells_len L
  rw [e] at this
  have h2 := List.length_pos_iff.2 h
  simp at this
  omega
theorem endL_some' {L : List R4} {v r m : Nat} (h : endL L = some (v, r, m)) : v ≤ 65536 ∧ m < 9223372036854775808 ∧ ∃ x rest, L.reverse = x :: rest ∧ x.b = v ∧ x.c = r ∧ x.d = m ∧ isE x.a x.b x.c x.d = true := by
  unfold endL at h
  cases hr : L.reverse with
  | nil => rw [hr] at h; cases h
  | cons x rest =>
    rw [hr] at h
    simp only at h
    split at h
    · rename_i he
      injection h with h
      injection h with h1 h2
      injection h2 with h2 h3
      subst h1 h2 h3
      have he2 := he
      unfold isE at he2
      simp only [Bool.and_eq_true, decide_eq_true_eq] at he2
      exact ⟨he2.1.1.2, he2.1.2, x, rest, rfl, rfl, rfl, rfl, he⟩
    · cases h
def openedL (L : List R4) : Option (Nat × Nat × Nat) := match endL L with
  | none => none
  | some (v, r, m) => if L.length = m + 1 then some (v, r, m) else none
end Go.Proofs.YtadipinnbehhhaaGreatDoor
namespace Go.Proofs.YtadipinnbehhhaaGreatDoor
open Go.RowKit

def n0 : N3 := ⟨0, 0, 0⟩
def ndCells (l : List N3) : List Value := l.flatMap fun n => [.int .u64 n.self, .int .u64 n.low, .int .u64 n.high]
theorem ndCells_app (a b : List N3) : ndCells (a ++ b) = ndCells a ++ ndCells b := by simp [ndCells]
theorem ndCells_at : ∀ (l : List N3) (k : Nat) (n : N3), l[k]? = some n → (ndCells l)[k * 3]? = some (.int .u64 n.self) ∧ (ndCells l)[k * 3 + 1]? = some (.int .u64 n.low) ∧ (ndCells l)[k * 3 + 2]? = some (.int .u64 n.high)
  | [], k, n, h => by simp at h
  | q :: l, 0, n, h => by
    simp only [List.getElem?_cons_zero, Option.some.injEq] at h
    subst h
    exact ⟨rfl, rfl, rfl⟩
  | q :: l, k + 1, n, h => by
    have ih := ndCells_at l k n (by simpa using h)
    have e : ndCells (q :: l) = .int .u64 q.self :: .int .u64 q.low :: .int .u64 q.high :: ndCells l := rfl
    rw [e, show (k + 1) * 3 = k * 3 + 1 + 1 + 1 by omega, show k * 3 + 1 + 1 + 1 + 1 = (k * 3 + 1) + 1 + 1 + 1 by omega, show k * 3 + 1 + 1 + 1 + 2 = (k * 3 + 2) + 1 + 1 + 1 by omega]
    simpa using ih
theorem info_node : (Tryz.prog.info? 46).map (fun i => (i.zero, i.size, i.bytes)) = some (some (.agg #[.int .u64 0, .int .u64 0, .int .u64 0]), 3, 24) := by kernel_rfl
def lastN (P : List N3) : N3 := P.getLastD n0
structure WkInv (up : Bool) (v r m : Nat) (recs : List R4) (Q : List N3 × Bool) (k : Nat) (P : List N3) : Prop where
  len : P.length = k
  inn : ∀ n ∈ P, sIn n.self = true
  eq : Q = (P ++ (walkN up v r m (recs.drop k) k (lastN P)).1, (walkN up v r m (recs.drop k) k (lastN P)).2)
section
variable {up : Bool} {v r m : Nat} {recs : List R4} {Q : List N3 × Bool} {k : Nat} {P : List N3} {q : R4}
theorem WkInv.start : WkInv up v r m recs (walkN up v r m recs 0 n0) 0 [] := ⟨rfl, fun n h => by simp at h, rfl⟩
theorem lastN_snoc (P : List N3) (n : N3) : lastN (P ++ [n]) = n := by simp [lastN]
theorem drop_at (hq : recs[k]? = some q) : recs.drop k = q :: recs.drop (k + 1) := by
  obtain ⟨h, e⟩ := List.getElem?_eq_some_iff.1 hq
  rw [List.drop_eq_getElem_cons h, e]
theorem WkInv.good (h : WkInv up v r m recs Q k P) (hq : recs[k]? = some q) (hb : (q.isN v && fitsB up r m k (lastN P) q.n3) = true) : WkInv up v r m recs Q (k + 1) (P ++ [q.n3]) := by
  refine ⟨by simp [h.len], fun n hn => ?_, ?_⟩
  · rcases List.mem_append.1 hn with h1 | h1
    · exact h.inn n h1
    · rw [List.mem_singleton.1 h1]
      simp only [Bool.and_eq_true] at hb
      exact isN_in hb.1
  · rw [lastN_snoc, h.eq, drop_at hq]
    have e : walkN up v r m (q :: recs.drop (k + 1)) k (lastN P) = (q.n3 :: (walkN up v r m (recs.drop (k + 1)) (k + 1) q.n3).1, (walkN up v r m (recs.drop (k + 1)) (k + 1) q.n3).2) := by
      show (if q.isN v && fitsB up r m k (lastN P) q.n3 then _ else _) = _
      rw [if_pos hb]
    rw [e]
    simp
theorem WkInv.bad (h : WkInv up v r m recs Q k P) (hq : recs[k]? = some q) (hb : (q.isN v && fitsB up r m k (lastN P) q.n3) = false) : Q = (P, true) := by
  rw [h.eq, drop_at hq]
  have e : walkN up v r m (q :: recs.drop (k + 1)) k (lastN P) = ([], true) := by
    show (if q.isN v && fitsB up r m k (lastN P) q.n3 then _ else _) = _
    rw [if_neg (by simp [hb])]
  rw [e, List.append_nil]
theorem WkInv.ends (h : WkInv up v r m recs Q k P) (hk : recs.length ≤ k) : Q = (P, false) := by
  rw [h.eq, List.drop_eq_nil_of_le hk]
  show (P ++ [], false) = _
  rw [List.append_nil]
theorem lastN_at (h : P.length = k) (hk : 0 < k) : ∃ n, P[k - 1]? = some n ∧ lastN P = n ∧ n ∈ P := by
  obtain ⟨n, hn⟩ : ∃ n, P[k - 1]? = some n := ⟨_, List.getElem?_eq_getElem (by omega)⟩
  refine ⟨n, hn, ?_, List.mem_of_getElem? hn⟩
  unfold lastN
  rw [List.getLastD_eq_getLast?, List.getLast?_eq_getElem?, h, hn]
  rfl
end

def AskedR (W : World) (A1 A2 A3 : Nat) (ok : Bool) (v14 v15 : Value) (wd : World) : Prop := ∃ T, v14 = .pointer (some ⟨T, 0, none⟩) ∧ v15 = .bool ok ∧ Keep Nil W wd ∧ W.heap.size ≤ T ∧ Blk wd T 46 #[.int .u64 A1, .int .u64 A2, .int .u64 A3]
end Go.Proofs.YtadipinnbehhhaaGreatDoor
namespace Go.Proofs.YtadipinnbehhhaaGreatDoor
open Go.RowKit

section
variable {c : Cx} {fs : List (ByteArray × AFile)} {name : ByteArray} {L : List R4} {up bad o : Bool} {v r m cb b q k : Nat} {G0 G : Nat → Prop} {s0 s : RSt} {l : List N3} {w wr w' : World} {n : N3}

end

end Go.Proofs.YtadipinnbehhhaaGreatDoor
namespace Go.Proofs.YtadipinnbehhhaaGreatDoor
open Go.RowKit

theorem nd_at {w : World} {A : Option Addr} {l : List N3} (h : Rd w A (ndCells l)) {k : Nat} {n : N3} (hn : l[k]? = some n) (hs : ∀ a, A = some a → a.spot = none) :
    ∃ g o, A = some ⟨g, o, none⟩ ∧ w.cell? ⟨g, o + k * 3, none⟩ = some (.int .u64 n.self) ∧ w.cell? ⟨g, o + k * 3 + 1, none⟩ = some (.int .u64 n.low) ∧ w.cell? ⟨g, o + k * 3 + 2, none⟩ = some (.int .u64 n.high) := by
  obtain ⟨h0, h1, h2⟩ := ndCells_at l k n hn
  obtain ⟨⟨g, o, sp⟩, rfl, c0⟩ := h _ _ h0
  obtain rfl : sp = none := hs _ rfl
  obtain ⟨_, e, c1⟩ := h _ _ h1; injection e with e; subst e
  obtain ⟨_, e, c2⟩ := h _ _ h2; injection e with e; subst e
  rw [add_at] at c0 c1 c2
  exact ⟨g, o, rfl, c0, by rw [← Nat.add_assoc] at c1; exact c1, by rw [← Nat.add_assoc] at c2; exact c2⟩
end Go.Proofs.YtadipinnbehhhaaGreatDoor
namespace Go.Proofs.YtadipinnbehhhaaGreatDoor
open Go.RowKit

section
variable {c : Cx} {w w' : World} {b : Nat} {G : Nat → Prop} {s s' : RSt} {fs : List (ByteArray × AFile)} {name : ByteArray} {L rem : List R4} {v r m : Nat} {o : Option (Nat × Nat × Nat)} {n : Int}

end
end Go.Proofs.YtadipinnbehhhaaGreatDoor
namespace Go.Proofs.YtadipinnbehhhaaGreatDoor
open Go.RowKit

section
variable (w : World) (E : Nat → Addr) (G : Nat → Prop) (g base : Nat) (m : Mo) (k9 level : Int) (low high root : Nat)

end
end Go.Proofs.YtadipinnbehhhaaGreatDoor
namespace Go.Proofs.YtadipinnbehhhaaGreatDoor
open Go.RowKit

section
variable (w : World) (E : Nat → Addr) (G : Nat → Prop) (g base : Nat) (m : Mo) (k9 level : Int) (low high root : Nat)

end
end Go.Proofs.YtadipinnbehhhaaGreatDoor
namespace Go.Proofs.YtadipinnbehhhaaGreatDoor
open Go.RowKit

section
variable {c : Cx} {w : World} {G : Nat → Prop} {s : RSt} {x : WSt} {y : BSt} {m : Mo} {fs : List (ByteArray × AFile)} {name : ByteArray} {L : Nat → Prop} {bb b g base n lim : Nat}

end
end Go.Proofs.YtadipinnbehhhaaGreatDoor
namespace Go.Proofs.YtadipinnbehhhaaGreatDoor
open Go.RowKit

section
variable {c : Cx} {w : World} {G : Nat → Prop} {s : RSt} {x : WSt} {y : BSt} {m : Mo} {fs : List (ByteArray × AFile)} {name : ByteArray} {L H : Nat → Prop} {bb b g base n lim : Nat}

end
end Go.Proofs.YtadipinnbehhhaaGreatDoor
namespace Go.Proofs.YtadipinnbehhhaaGreatDoor
open Go.RowKit

theorem open_rm {X w2 : World} {E : Nat → Addr} {d p lk k m0 m K block : Nat} {blocks limit : Int} {fs : List (ByteArray × AFile)} (h : OpenAt X w2 d p lk k m0 m block blocks limit fs) (he : ErrsAt X E) (hh : HalvesAt X) (hm : MagicAt X) (hK : fit block = K) (hK0 : 0 < K) :
    RmAt ⟨E, d, p, lk, k, none, K, block⟩ w2 (RF (fun b => m0 ≤ b ∧ b < m) p lk k) ⟨mountD block blocks fs, PSt.new limit, 1⟩ ∧ ∀ z, RF (fun b => m0 ≤ b ∧ b < m) p lk k z → X.heap.size ≤ z := by
  obtain ⟨l1, l2, l3, l4, l5, l6⟩ := h.lt
  obtain ⟨R, hd⟩ := h.disk
  have hmd : m0 ≤ d ∧ d < m := hd.fd
  have hG : ∀ z, RF (fun b => m0 ≤ b ∧ b < m) p lk k z → X.heap.size ≤ z := fun z hz => by
    rcases hz with hz | (hz | hz) | hz <;> omega
  have hv : ∀ i, i < 9 → ¬ RF (fun b => m0 ≤ b ∧ b < m) p lk k (errVar i) := fun i hi hf => by
    have := hG _ hf
    have := he.old i hi
    omega
  have hb : ∀ i, i < 9 → ¬ RF (fun b => m0 ≤ b ∧ b < m) p lk k (E i).block := fun i hi hf => by
    have := hG _ hf
    obtain ⟨cs, t, hb⟩ := he.blk i hi
    have := lt_of_heap hb
    omega
  have hnh : ¬ RF (fun b => m0 ≤ b ∧ b < m) p lk k 11 := fun hf => by
    have := hG _ hf
    have := cell_lt (hh 0 (by decide))
    simp only at this
    omega
  have hnm : ¬ RF (fun b => m0 ≤ b ∧ b < m) p lk k 9 := fun hf => by
    have := hG _ hf
    have := cell_lt (hm 0 83 rfl)
    simp only at this
    omega
  have henv : Env w2 (RF (fun b => m0 ≤ b ∧ b < m) p lk k) E := ⟨he.keep h.keep (fun _ _ h => h) (fun _ _ h => h), hv, hb⟩
  refine ⟨⟨⟨_, rfl, ⟨R, hd⟩, h.purse, ?_, henv, fun hf => ?_, fun hf => ?_, fun hf => ?_⟩, ⟨henv, hh.keep h.keep (fun h => h), hm.keep h.keep (fun h => h), hnh, hnm⟩, rfl, hK, hK0⟩, hG⟩
  · have := h.desk
    rw [hK] at this
    exact this
  · have hf : m0 ≤ p ∧ p < m := hf
    omega
  · have hf : m0 ≤ lk ∧ lk < m := hf
    omega
  · have hf : m0 ≤ k ∧ k < m := hf
    omega
theorem own_le {w : World} {base : Nat} {e : TypeId} {size n c : Nat} {A : Option Addr} {xs : List Value} (h : w.ownsRow base e size (.slice A n c) n xs) : n ≤ c ∧ ∀ a, A = some a → a.spot = none := by
  rcases h.2 with ⟨e, h0⟩ | ⟨g, cap, cur, e, _, _, hle, _⟩
  · injection e with e1 e2 e3
    exact ⟨by omega, fun a ha => by rw [e1] at ha; cases ha⟩
  · injection e with e1 e2 e3
    exact ⟨by omega, fun a ha => by rw [e1] at ha; injection ha with ha; subst ha; rfl⟩
end Go.Proofs.YtadipinnbehhhaaGreatDoor
namespace Go.Proofs.YtadipinnbehhhaaGreatDoor
open Go.RowKit

def nmF : ByteArray := ⟨#[102]⟩
end Go.Proofs.YtadipinnbehhhaaGreatDoor
namespace Go.Proofs.YtadipinnbehhhaaGreatDoor
open Go.RowKit

end Go.Proofs.YtadipinnbehhhaaGreatDoor
namespace Go.Proofs.YtadipinnbehhhaaGreatDoor
open Go.RowKit

section
variable {block K : Nat} {how : Int} {L : List R4} {F : AFile}
theorem nmF_ok : okName nmF = true := by decide +kernel
end
end Go.Proofs.YtadipinnbehhhaaGreatDoor
namespace Go.Proofs.YtadipinnbehhhaaGreatDoor
open Go.RowKit

end Go.Proofs.YtadipinnbehhhaaGreatDoor
namespace Go.Proofs.YtadipinnbehhhaaGreatDoor
open Go.RowKit

end Go.Proofs.YtadipinnbehhhaaGreatDoor
namespace Go.Proofs.YtadipinnbehhhaaGreatDoor
open Go.RowKit

end Go.Proofs.YtadipinnbehhhaaGreatDoor
namespace Go.Proofs.YtadipinnbehhhaaGreatDoor
open Go.RowKit

section
variable {c : Cx} {w w' Y : World} {G0 : Nat → Prop} {s0 : RSt} {how : Int} {L : List R4} {v r m cb : Nat} {up bad : Bool} {l : List N3}

end

end Go.Proofs.YtadipinnbehhhaaGreatDoor
namespace Go.Proofs.YtadipinnbehhhaaGreatDoor
open Go.RowKit

end Go.Proofs.YtadipinnbehhhaaGreatDoor
namespace Go.Proofs.YtadipinnbehhhaaGreatDoor
open Go.ChangeShapes Go.WideShapes Go.ChangeAt Go.WideMaps Go.WideElems Go.RowKit

theorem kOwn : ownKnob Tryz.prog.godebug = none := by kernel_rfl
theorem kOut : laidOutB Tryz.prog = true := by kernel_rfl
theorem kStar : "*" ++ "errors.errorString" = "*errors.errorString" := by decide
theorem kRow (u : TypeId) (h : Tryz.prog.typeName? 3 u = some "*errors.errorString") : u = 421 :=
  typeName_ptr_named (nm := "errors.errorString") (by rw [kStar]; kernel_rfl) (by kernel_rfl) (by decide) u (by rw [kStar]; exact h)
theorem kCellE : Tryz.prog.cellsOf 444 = 1 := by kernel_rfl
theorem kCellS : Tryz.prog.cellsOf 9 = 1 := by kernel_rfl
def errList (l : List (String × List UInt8 × Nat)) : List (String × DataW Unit) := l.map fun x => (x.1, .iface "*errors.errorString" (.ptr (.agg [.lit (.string x.2.1)])))
set_option maxRecDepth 100000 in
theorem errs_of {W : World} : ∀ (l : List (String × List UInt8 × Nat)) (ps : List MemPlace),
    (∀ x ∈ l, Tryz.prog.globalNamed x.1 = some x.2.2 ∧ (Tryz.prog.globals[x.2.2]?).map (·.type) = some 295) → DataW.LaidVars Tryz.prog W (errList l) ps →
    (∀ b off, MemPlace.cell b off ∈ ps → (∃ c t, W.heap[b]? = some (.cells c t (0, 0))) ∧ ∀ u v, W.cell? ⟨b, off, none⟩ = some (.iface u v) → Value.okWide Tryz.prog W .any 0 u v) →
    ∃ bs : List Addr, bs.length = l.length ∧ (∀ (k : Nat) x a, l[k]? = some x → bs[k]? = some a → W.cell? ⟨x.2.2, 0, none⟩ = some (.iface 421 (.pointer (some a)))) ∧ (bs.map fun a => MemPlace.cell a.block a.off).Sublist ps
  | [], ps, _, _, _ => ⟨[], rfl, fun k x a h => by simp at h, List.nil_sublist _⟩
  | x :: l, ps, hg, h, hrows => by
    obtain ⟨g0, t0, cs0, f0, p0, q0, hg0, ht0, hv0, hd0, hr, e0⟩ := h
    obtain ⟨e1, e2⟩ := hg x (List.mem_cons_self ..)
    obtain rfl := Option.some.inj (e1.symm.trans hg0)
    obtain rfl := Option.some.inj (e2.symm.trans ht0)
    subst e0
    obtain ⟨l0⟩ := cs0
    have ok0 : ∀ u v, l0 = [.iface u v] → Value.okWide Tryz.prog W .any 0 u v := fun u v e => by
      subst e
      exact (hrows x.2.2 0 (by simp [MemPlace.row])).2 u v (by simpa using World.var?_cell hg0 hv0 0)
    obtain ⟨a0, s0, rfl, hc0, hs0, hz0, rfl⟩ := errorString_of_trod Tryz.underlying295 kRow Tryz.underlying421 Tryz.underlying444 rfl rfl Tryz.underlying9 kCellE kCellS hd0 ok0
    obtain ⟨bs, h1, h2, h3⟩ := errs_of l q0 (fun y hy => hg y (List.mem_cons_of_mem _ hy)) hr (fun b off hb => hrows b off (List.mem_append_right _ hb))
    refine ⟨a0 :: bs, by simp [h1], fun k y a hy ha => ?_, ?_⟩
    · match k with
      | 0 =>
        simp only [List.getElem?_cons_zero, Option.some.injEq] at hy ha
        subst hy ha
        simpa using World.var?_cell hg0 hv0 0
      | k + 1 => exact h2 k y a (by simpa using hy) (by simpa using ha)
    · rw [List.map_cons]
      refine (List.Sublist.append (l₁ := [_]) ?_ h3)
      rw [List.singleton_sublist]
      simp [MemPlace.row]
theorem nums_of {W : World} {t e : TypeId} {n fuel : Nat} {k : IntKind} {cs : Array Value} {ns : List Int} {p : List MemPlace} (ht : Tryz.prog.underlying t = some (.array n e)) (he : Tryz.prog.underlying e = some (.int k)) (hc : Tryz.prog.cellsOf e = 1)
    (h : DataW.trod (fun _ => ()) Tryz.prog W 0 (fun _ => true) false fuel t cs.toList = some (.agg (ns.map fun x => .lit (.int k x)), p)) (i : Nat) (x : Int) (hx : ns[i]? = some x) : cs[i]? = some (.int k x) := by
  obtain ⟨xs, m, _, e1, _, hl, hat⟩ := DataW.trod_array ht h
  simp only [Prod.mk.injEq, DataW.agg.injEq] at e1
  have hlen := congrArg List.length e1.1
  simp only [List.length_map] at hlen
  have hi := (List.getElem?_eq_some_iff.1 hx).1
  have h1 := hat i (by omega)
  rw [hc, Nat.mul_one] at h1
  have h2 : xs[i]? = some (xs[i]'(by omega)) := List.getElem?_eq_getElem (by omega)
  rw [h2] at h1
  obtain ⟨y, hy1, hy2, _⟩ := DataW.trod_int he h1
  have h3 : (ns.map fun x => (DataW.lit (.int k x) : DataW Unit))[i]? = some (.lit (.int k x)) := by rw [List.getElem?_map, hx]; rfl
  rw [e1.1, List.getElem?_map, h2, hy2] at h3
  simp only [Option.map_some, Option.some.injEq, DataW.lit.injEq, Lit.int.injEq] at h3
  rw [h3.2] at hy1
  have h4 : (cs.toList.drop i)[0]? = some (.int k x) := by
    have := congrArg (·[0]?) hy1
    simpa [List.getElem?_take] using this
  rw [List.getElem?_drop] at h4
  simpa using h4
theorem kgH : Tryz.prog.globalNamed "strata/recs.halves" = some 11 := by kernel_rfl
theorem kgM : Tryz.prog.globalNamed "strata/recs.magic" = some 9 := by kernel_rfl
theorem ktH : (Tryz.prog.globals[11]?).map (·.type) = some 406 := by kernel_rfl
theorem ktM : (Tryz.prog.globals[9]?).map (·.type) = some 383 := by kernel_rfl
theorem kc32 : Tryz.prog.cellsOf 236 = 1 := by kernel_rfl
theorem kc8 : Tryz.prog.cellsOf 5 = 1 := by kernel_rfl
def nine : List (String × List UInt8 × Nat) :=
  [("strata/disk.errOff", [116, 104, 101, 32, 112, 111, 119, 101, 114, 32, 105, 115, 32, 111, 102, 102], 0), ("strata/disk.errName", [110, 111, 32, 110, 97, 109, 101], 1),
   ("strata/disk.errNoFile", [110, 111, 32, 115, 117, 99, 104, 32, 102, 105, 108, 101], 5), ("strata/disk.errExists", [116, 104, 101, 114, 101, 32, 105, 115, 32, 115, 117, 99, 104, 32, 97, 32, 102, 105, 108, 101], 2),
   ("strata/disk.errSealed", [115, 101, 97, 108, 101, 100], 4), ("strata/disk.errOpen", [110, 111, 116, 32, 115, 101, 97, 108, 101, 100], 6),
   ("strata/disk.errBlock", [110, 111, 32, 115, 117, 99, 104, 32, 98, 108, 111, 99, 107], 7), ("strata/disk.errFull", [110, 111, 32, 98, 108, 111, 99, 107, 32, 105, 115, 32, 102, 114, 101, 101], 8),
   ("strata/disk.errFault", [97, 32, 102, 97, 117, 108, 116], 3)]
theorem kNine : ∀ x ∈ nine, Tryz.prog.globalNamed x.1 = some x.2.2 ∧ (Tryz.prog.globals[x.2.2]?).map (·.type) = some 295 := by
  intro x hx
  simp only [nine, List.mem_cons, List.not_mem_nil, or_false] at hx
  rcases hx with rfl | rfl | rfl | rfl | rfl | rfl | rfl | rfl | rfl <;> exact ⟨by kernel_rfl, by kernel_rfl⟩
theorem nine_var : ∀ k, k < 9 → ∃ x, nine[k]? = some x ∧ x.2.2 = errVar k := by
  intro k hk
  match k with
  | 0 => exact ⟨_, rfl, rfl⟩
  | 1 => exact ⟨_, rfl, rfl⟩
  | 2 => exact ⟨_, rfl, rfl⟩
  | 3 => exact ⟨_, rfl, rfl⟩
  | 4 => exact ⟨_, rfl, rfl⟩
  | 5 => exact ⟨_, rfl, rfl⟩
  | 6 => exact ⟨_, rfl, rfl⟩
  | 7 => exact ⟨_, rfl, rfl⟩
  | 8 => exact ⟨_, rfl, rfl⟩
def eleven : List (String × DataW Unit) := ("strata/recs.halves", Go.Proofs.YtadipinnbehhhaaGreatDoor.Rows.laid_strata_recs_halves) :: ("strata/recs.magic", Go.Proofs.YtadipinnbehhhaaGreatDoor.Rows.laid_strata_recs_magic) :: errList nine
theorem half_list : ∀ i, i < 16 → ([0, 498536548, 997073096, 651767980, 1994146192, 1802195444, 1303535960, 1342533948, 3988292384, 4027552580, 3604390888, 3412177804, 2607071920, 2262029012, 2685067896, 3183342108] : List Int)[i]? = some (half i : Int) := by decide +kernel
theorem laid_gives {W : World} (h : laidMet Tryz.prog eleven W) : ∃ E, ErrsAt W E ∧ HalvesAt W ∧ MagicAt W := by
  obtain ⟨ps, ⟨g0, t0, cs0, f0, p0, q0, hg0, ht0, hv0, hd0, ⟨g1, t1, cs1, f1, p1, q1, hg1, ht1, hv1, hd1, hr, e1⟩, e0⟩, hnd, hrows⟩ := h
  obtain rfl := Option.some.inj (kgH.symm.trans hg0)
  obtain rfl := Option.some.inj (kgM.symm.trans hg1)
  obtain rfl := Option.some.inj (ktH.symm.trans ht0)
  obtain rfl := Option.some.inj (ktM.symm.trans ht1)
  have hq : ∀ x, x ∈ q1 → x ∈ ps := fun x hx => by rw [e0, e1]; exact List.mem_append_right _ (List.mem_append_right _ hx)
  have hsub : q1.Sublist ps := by rw [e0, e1]; exact (List.sublist_append_right _ _).trans (List.sublist_append_right _ _)
  obtain ⟨bs, h1, h2, h3⟩ := errs_of nine q1 kNine hr (fun b off hb => hrows b off (hq _ hb))
  have h9 : bs.length = 9 := h1
  have hnd2 : (bs.map fun a => MemPlace.cell a.block a.off).Nodup := (hnd.sublist hsub).sublist h3
  have hat : ∀ k, k < 9 → bs[k]? = some (bs.getD k ⟨0, 0, none⟩) := fun k hk => by
    rw [List.getD_eq_getElem?_getD, List.getElem?_eq_getElem (by omega)]
    rfl
  have hplace : ∀ k, k < 9 → MemPlace.cell (bs.getD k ⟨0, 0, none⟩).block (bs.getD k ⟨0, 0, none⟩).off ∈ ps := fun k hk => by
    refine hq _ (h3.mem ?_)
    exact List.mem_map.2 ⟨_, List.mem_of_getElem? (hat k hk), rfl⟩
  have hvar : ∀ k, k < 9 → W.cell? ⟨errVar k, 0, none⟩ = some (.iface 421 (.pointer (some (bs.getD k ⟨0, 0, none⟩)))) := fun k hk => by
    obtain ⟨x, hx, e⟩ := nine_var k hk
    rw [← e]
    exact h2 k x _ hx (hat k hk)
  refine ⟨fun k => bs.getD k ⟨0, 0, none⟩, ⟨hvar, fun k hk => cell_lt (hvar k hk), fun k hk => (hrows _ _ (hplace k hk)).1, fun j k hj hk hne e => ?_⟩, fun i hi => ?_, fun i x hx => ?_⟩
  · have a1 : (bs.map fun a => MemPlace.cell a.block a.off)[j]? = some (.cell (bs.getD j ⟨0, 0, none⟩).block (bs.getD j ⟨0, 0, none⟩).off) := by rw [List.getElem?_map, hat j hj]; rfl
    have a2 : (bs.map fun a => MemPlace.cell a.block a.off)[k]? = some (.cell (bs.getD j ⟨0, 0, none⟩).block (bs.getD j ⟨0, 0, none⟩).off) := by rw [List.getElem?_map, hat k hk, show bs.getD j ⟨0, 0, none⟩ = bs.getD k ⟨0, 0, none⟩ from e]; rfl
    exact hne (nodup_eq hnd2 a1 a2)
  · rw [World.var?_cell hg0 hv0 i]
    exact nums_of (ns := [0, 498536548, 997073096, 651767980, 1994146192, 1802195444, 1303535960, 1342533948, 3988292384, 4027552580, 3604390888, 3412177804, 2607071920, 2262029012, 2685067896, 3183342108]) Tryz.underlying406 Tryz.underlying236 kc32 hd0 i _ (half_list i hi)
  · rw [World.var?_cell hg1 hv1 i]
    exact nums_of (ns := [83, 84, 82, 65]) Tryz.underlying383 Tryz.underlying5 kc8 hd1 i x hx
theorem trodAll_stays {H : Type} {enc : TypeId × Value → H} {P : Program} (hl : laidOutB P = true) {W W' : World} {sp : Nat → Bool} : ∀ (ts : List TypeId) {vs : List Value} {ds : List (DataW H)} {ps : List MemPlace}, (∀ t ∈ ts, P.readableRec t = true ∧ t < P.types.size) →
    DataW.TrodAll enc P W 0 (fun _ => true) true ts vs ds ps → (∀ p ∈ ps, W.sameAt W' p) → (∀ p ∈ ps, sp p.block = true) → DataW.TrodAll enc P W' 0 sp true ts vs ds ps
  | [], vs, ds, ps, _, h, _, _ => by
    obtain ⟨rfl, rfl, rfl⟩ := trodAll_nil h
    exact h
  | t :: ts, vs, ds, ps, hr, h, hs, hp => by
    obtain ⟨v, vs', d, ds', p, q, rfl, rfl, rfl, hd, hrest⟩ := trodAll_cons h
    obtain ⟨h1, h2⟩ := hr t (List.mem_cons_self ..)
    exact ⟨p, q, Trod_stays hl h1 h2 hd (fun x hx => hs x (List.mem_append_left _ hx)) (fun x hx => hp x (List.mem_append_left _ hx)), trodAll_stays hl ts (fun t ht => hr t (List.mem_cons_of_mem _ ht)) hrest (fun x hx => hs x (List.mem_append_right _ hx)) (fun x hx => hp x (List.mem_append_right _ hx)), rfl⟩
theorem law_post {H : Type} {enc : TypeId × Value → H} {f : Func} {s : ChangeSpec} {W W' : World} {args : Array Value} {ds : List (DataW H)} {before : List MemPlace} (hW : DataW.Whole enc Tryz.prog f.params.toList s.vars false W args.toList ds [] before) (hv : s.vars = [])
    (hA : DataW.TrodAll enc Tryz.prog W 0 (fun _ => true) true f.params.toList args.toList ds before) (hfn : s.fn H (ds ++ []) = { results := [.lit (.bool true)], args := ds }) (hr : ∀ t ∈ f.params.toList, Tryz.prog.readableRec t = true ∧ t < Tryz.prog.types.size) (hrt : f.resultTypes = #[4]) (k : Keep Nil W W') :
    s.post enc Tryz.prog f false true false false W args (.bool true) W' := by
  have hb : Below W.heap.size W W' := k.below (fun _ _ _ h => h) (Nat.le_refl _)
  have hlt : ∀ p ∈ before, p.block < W.heap.size := fun p hp => hW.lt p hp
  refine ⟨ds, [], before, [], before, [], hW, ?_, ?_, ?_, World.keptBut_mono (fun p hp => ⟨hp, .inr (by simpa using hp)⟩) (hb.frame (· ∈ before)), fun h => by cases h⟩
  · rw [hfn, hrt]
    exact trodAll_mk1 (shut_bool Tryz.underlying4 true)
  · rw [hfn]
    exact trodAll_stays kOut _ hr hA (fun p hp => hb.same (hlt p hp)) (fun p hp => by simpa using hlt p hp)
  · rw [hv, hfn]
    rfl
end Go.Proofs.YtadipinnbehhhaaGreatDoor
namespace Go.Proofs.YtadipinnbehhhaaGreatDoor
open Go.ChangeShapes Go.WideShapes Go.ChangeAt Go.WideMaps Go.WideElems Go.RowKit Go.Deep

theorem wf_range {k : IntKind} {n : Int} (h : (Lit.int k n).wf = true) : k.min ≤ n ∧ n ≤ k.max := by simpa [Lit.wf] using h
theorem door_met (os : Os) (args : Array Value) : laidMetH Tryz.prog eleven ((World.doorLaid Tryz.prog 210 os).forCall (fun _ _ => 0) ⟨#[], args, []⟩).memory :=
  laidMetH_of_parts3 (fuel := 8) (laidMet_of_run' 8 (by kernel_rfl) (by kernel_rfl)) (by kernel_rfl) (by kernel_rfl)
end Go.Proofs.YtadipinnbehhhaaGreatDoor
namespace Go.Proofs.YtadipinnbehhhaaGreatDoor
open Go.ChangeShapes Go.WideShapes Go.ChangeAt Go.WideMaps Go.WideElems Go.RowKit Go.Deep

theorem arr_num {H : Type} {W : World} {sp : Nat → Bool} {hd : Bool} {t : TypeId} {k : IntKind} {n : Nat} {cs : List Value} {x : DataW H × List MemPlace} {enc : TypeId × Value → H} {o : Nat} (ht : Tryz.prog.underlying t = some (.int k)) (h : DataW.trod enc Tryz.prog W 0 sp hd n t ((cs.drop o).take 1) = some x) :
    ∃ y, cs[o]? = some (.int k y) ∧ k.min ≤ y ∧ y ≤ k.max := by
  obtain ⟨y, h1, _, h3⟩ := DataW.trod_int ht h
  refine ⟨y, ?_, wf_range h3⟩
  have := congrArg (·[0]?) h1
  simp only [List.getElem?_take, List.getElem?_drop] at this
  simpa using this
theorem rd_in {W : World} {A : Option Addr} {xs : List Value} (h : Rd W A xs) (hne : xs ≠ []) : ∀ a, A = some a → a.spot = none ∧ a.block < W.heap.size := by
  intro a e
  obtain ⟨g, o, e2⟩ := rd_at h hne
  rw [e] at e2
  injection e2 with e2
  subst e2
  obtain ⟨u, hu⟩ : ∃ u, xs[0]? = some u := ⟨_, List.getElem?_eq_getElem (List.length_pos_iff.2 hne)⟩
  obtain ⟨ad, e3, hc⟩ := h _ _ hu
  rw [e] at e3
  injection e3 with e3
  subst e3
  rw [add_at] at hc
  exact ⟨rfl, cell_lt hc⟩
theorem ints_list {W : World} {a : Addr} : ∀ (len : Nat), (∀ i, i < len → ∃ x : Int, W.cell? (a.add i) = some (.int .i64 x)) →
    ∃ si : List Int, si.length = len ∧ ∀ (j : Nat) (u : Value), (si.map fun x => Value.int .i64 x)[j]? = some u → W.cell? (a.add j) = some u
  | 0, _ => ⟨[], rfl, fun j u hu => by simp at hu⟩
  | len + 1, h => by
    obtain ⟨si, h1, h3⟩ := ints_list len (fun i hi => h i (by omega))
    obtain ⟨x, hx⟩ := h len (by omega)
    refine ⟨si ++ [x], by simp [h1], fun j u hu => ?_⟩
    rw [List.map_append] at hu
    by_cases hj : j < si.length
    · rw [List.getElem?_append_left (by simpa using hj)] at hu
      exact h3 j u hu
    · rw [List.getElem?_append_right (by simp; omega)] at hu
      have hl := (List.getElem?_eq_some_iff.1 hu).1
      simp at hl
      obtain rfl : j = len := by omega
      simp [h1] at hu
      rw [hx, hu]
end Go.Proofs.YtadipinnbehhhaaGreatDoor
