/- A cursor's Next and Close. A cursor that is open, as what it will give; closed. NodesReads: what the law says of a tape's end. NodesReads: the nodes that the law takes out of a tape, plain: the loop's invariant. NodesReads: a cursor under the law's script, in the room's words. NodesReads: the law's walk through a script of Next and Close. NodesReads: what Up and Down answer. The law's model: add where it refuses early; done. The law's model: add. The law's step: the builder and its model answer the same. The law's step: Drop. NodesBuilds: the law's walk. NodesReads: the law's files: the five ways. NodesReads: the law's stray beside one more file. NodesReads: the plain facts of its start: the files, what the room answers of the tape. -/
import Derived.Deep.CutBlock
import Derived.Test.YtadipinnbehhhaaGreatDoorAsksRowAO
import Derived.Test.YtadipinnbehhhaaGreatDoorAsksRowAN
import Derived.Test.YtadipinnbehhhaaGreatDoorAsksRowAJ
namespace Go.Proofs.YtadipinnbehhhaaGreatDoor
open Go.RowKit

set_option maxHeartbeats 1000000 in
theorem deadly_shape (w : World) : Calls Tryz.prog 159 #[.int .i64 72] w fun e w' => e = .returned (.bool true) ∧ w' = w := by
  go_enter Tryz.func159, Tryz.ntmps159
  go_wp2
  go_ret
  exact ⟨rfl, rfl⟩
/-- What stands when a record has been told. -/
def AskedN (W : World) (r : R4) (ok : Bool) (v8 v9 : Value) (wd : World) : Prop := ∃ T x y z : Nat, v8 = .pointer (some ⟨T, 0, none⟩) ∧ v9 = .bool ok ∧ Keep Nil W wd ∧ Blk wd T 46 #[.int .u64 x, .int .u64 y, .int .u64 z] ∧ W.heap.size ≤ T ∧ (ok = true → x = r.a ∧ y = r.b ∧ z = r.c)
section
variable {c : Cx} {w w' w2 : World} {cb b : Nat} {G G' : Nat → Prop} {s s' : RSt} {x x' : RdSt} {y y' : CuSt} {fs : List (ByteArray × AFile)} {name : ByteArray} {L rem : List R4} {q : Nat} {l : List N3} {bad : Bool}

theorem CurTo.new_cell {w1 w2 : World} (h : CurAt c w cb b G s x y) {o : Obj} (t : CurTo c cb b G s' x' y' (w.alloc o) w1) (k : Keep (fun z => z = w.heap.size) w1 w2) : CurTo c cb b G s' x' y' w w2 := by
  obtain ⟨G1, h1, s1⟩ := t
  have off0 : Off c.E G w.heap.size := Off.new h.env h.lt (Nat.le_refl _)
  have off1 := off0.step (w := w.alloc o) (by simp) s1
  refine ⟨G1, h1.keep k (fun z e => by rw [show z = w.heap.size from e]; exact off1), ?_⟩
  have s0 := (Stp.of_nil ((Keep.refl Nil w).alloc o) G).trans s1
  exact ⟨s0.keep.trans k (fun z hz e => by have : z = w.heap.size := e; omega), s0.grow⟩
theorem CurTo.kept {w1 : World} (h : CurAt c w cb b G s x y) {t : TypeId} {cs : Array Value} (ht : CurTo c cb b G s' x' y' (w.alloc (.cells cs t)) w1) : Blk w1 w.heap.size t cs := by
  obtain ⟨G1, h1, s1⟩ := ht
  exact (Blk.new w t cs).keep s1.keep (fun hg => Nat.lt_irrefl _ (h.lt _ hg))
/-- Three cells stored. -/
theorem set3_at {W : World} {g : Nat} {t : TypeId} {x0 x1 x2 : Value} (hb : Blk W g t #[x0, x1, x2]) (u v x : Value) (X : World) (hX : X = (((W.setCell ⟨g, 0, none⟩ u).setCell ⟨g, 1, none⟩ v).setCell ⟨g, 2, none⟩ x) ∨ X = (((W.setCell ⟨g, 0, none⟩ u).setCell ⟨g, 1, none⟩ v).setCell ⟨g, 2, none⟩ x).drew) :
    X.cell? ⟨g, 0, none⟩ = some u ∧ X.cell? ⟨g, 1, none⟩ = some v ∧ X.cell? ⟨g, 2, none⟩ = some x ∧ Keep (fun z => z = g) W X := by
  have hb3 := ((hb.set_ 0 u).set_ 1 v).set_ 2 x
  have kp := (((Keep.refl (fun z => z = g) W).setCell (p := ⟨g, 0, none⟩) (fun _ => rfl) u).setCell (p := ⟨g, 1, none⟩) (fun _ => rfl) v).setCell (p := ⟨g, 2, none⟩) (fun _ => rfl) x
  rcases hX with hX | hX
  · subst hX
    exact ⟨hb3.at_ 0, hb3.at_ 1, hb3.at_ 2, kp⟩
  · subst hX
    exact ⟨hb3.at_ 0, hb3.at_ 1, hb3.at_ 2, kp.drew⟩
set_option maxRecDepth 100000 in
set_option maxHeartbeats 2000000 in
/-- Next at a cursor that is dead, or has given all. -/
theorem cnext_none (n : Int) (h : CurAt c w cb b G s x y) (hd : y.done = false) (hc : (y.dead = n ∧ ¬ n = 0) ∨ (y.dead = 0 ∧ n = 0 ∧ y.given = y.nodes)) :
    Calls Tryz.prog 85 #[.pointer (some ⟨cb, 0, none⟩)] w fun e w' => e = .returned (.tuple #[ndV 0 0 0, .bool false, .int .i64 n]) ∧ CurTo c cb b G s x y w w' := by
  obtain ⟨W, hW⟩ : ∃ W, W = w.alloc (.cells #[.int .u64 0, .int .u64 0, .int .u64 0] 46) := ⟨_, rfl⟩
  have kW : Keep Nil w W := by rw [hW]; exact (Keep.refl Nil w).alloc _
  have bW : Blk W w.heap.size 46 #[.int .u64 0, .int .u64 0, .int .u64 0] := by rw [hW]; exact Blk.new w _ _
  have hbW := h.blk.keep kW (fun h => h)
  have hlt := h.blk.lt
  have hfin : Hid (∀ X, Keep (fun z => z = w.heap.size) W X → CurTo c cb b G s x y w X) := Hid.intro_ (fun X k => CurTo.new_cell h (o := .cells #[.int .u64 0, .int .u64 0, .int .u64 0] 46) (by rw [← hW]; exact CurTo.refl (h.nil kW)) k)
  have c10 : W.cell? ⟨cb, 10, none⟩ = some (.bool false) := by rw [← hd]; exact hbW.at_ 10
  have c9 : W.cell? ⟨cb, 9, none⟩ = some (.int .i64 y.dead) := hbW.at_ 9
  have c5 : W.cell? ⟨cb, 5, none⟩ = some (.int .i64 y.given) := hbW.at_ 5
  have c4 : W.cell? ⟨cb, 4, none⟩ = some (.int .i64 y.nodes) := hbW.at_ 4
  have z0 : W.cell? ⟨w.heap.size, 0, none⟩ = some (.int .u64 0) := bW.at_ 0
  have z1 : W.cell? ⟨w.heap.size, 1, none⟩ = some (.int .u64 0) := bW.at_ 1
  have z2 : W.cell? ⟨w.heap.size, 2, none⟩ = some (.int .u64 0) := bW.at_ 2
  have g0 := bW.fr 0
  have g1 := bW.fr 1
  have g2 := bW.fr 2
  have HBW := Hid.intro_ bW
  have hne : ¬ cb = w.heap.size := by omega
  have hne2 : ¬ w.heap.size = cb := by omega
  unfold ndV
  rcases hc with ⟨hc, hn⟩ | ⟨hc, hn, hg⟩
  · have qn : (n != 0) = true := by simpa using hn
    rw [hc] at c9
    clear hbW bW kW h hd hc hn
    go_enter Tryz.func85, Tryz.ntmps85
    go_upto_region 1 with (fail)
    rw [← hW]
    clear hW
    go_wp2_with fail
    (first | (go_region_held3 (fun w' => w'.cell? ⟨cb, 9, none⟩ = some (.int .i64 n)) (first | exact c9 | go_keep) ((first | fail))) | fail)
    all_goals
      go_wp2_with fail
      generalize hX : ((((W).setCell ⟨w.heap.size, 0, none⟩ (.int .u64 0)).setCell ⟨w.heap.size, 1, none⟩ (.int .u64 0)).setCell ⟨w.heap.size, 2, none⟩ (.int .u64 0)).drew = X at *
      obtain ⟨y0, y1, y2, kX⟩ := set3_at (HBW.out) (.int .u64 0) (.int .u64 0) (.int .u64 0) X (.inr hX.symm)
      refine bodyPost_ret (v := .tuple #[.agg #[.int .u64 0, .int .u64 0, .int .u64 0], .bool false, .int .i64 n]) (by simp [results, Tryz.results85, go_sem, y0, y1, y2]) rfl ⟨rfl, hfin.out X kX⟩
  · subst hn
    rw [hc] at c9
    have qg : ((y.given : Int) == (y.nodes : Int)) = true := by simp [hg]
    clear hbW bW kW h hd hc hg
    go_enter Tryz.func85, Tryz.ntmps85
    go_upto_region 1 with (fail)
    rw [← hW]
    clear hW
    go_wp2_with fail
    go_quiet (fail)
    go_wp2_with fail
    generalize hX : (((W.drewN nq).setCell ⟨w.heap.size, 0, none⟩ (.int .u64 0)).setCell ⟨w.heap.size, 1, none⟩ (.int .u64 0)).setCell ⟨w.heap.size, 2, none⟩ (.int .u64 0) = X at *
    obtain ⟨y0, y1, y2, kX⟩ := set3_at (HBW.out.drewN nq) (.int .u64 0) (.int .u64 0) (.int .u64 0) X (.inl hX.symm)
    refine bodyPost_ret (v := .tuple #[.agg #[.int .u64 0, .int .u64 0, .int .u64 0], .bool false, .int .i64 0]) (by simp [results, Tryz.results85, go_sem, y0, y1, y2]) rfl ⟨rfl, hfin.out X (((Keep.refl (fun z => z = w.heap.size) W).drewN nq).then_ kX)⟩
set_option maxRecDepth 100000 in
set_option maxHeartbeats 8000000 in
/-- Next at a cursor to whom a record is left. -/
theorem cnext_rec {r : R4} {rest : List R4} (h : CurAt c w cb b G s x y) (hv : RdLive c name 2 L (!y.up) x q rem) (ht : TapeOn c fs name 2 L) (hcm : Calm s.D c.block fs) (hr : rem = r :: rest) (hd : y.done = false) (hz : y.dead = 0) (hg : y.given < y.nodes) (hn40 : y.nodes ≤ 1099511627776) (hvars : y.vars ≤ 65536) (hin : 0 < y.given → sIn y.last.self = true)
    (hro : r.Ok) (B : Bool) (hB : B = (r.isN y.vars && fitsB y.up y.root y.nodes y.given y.last r.n3)) :
    Calls Tryz.prog 85 #[.pointer (some ⟨cb, 0, none⟩)] w fun e w' => ∃ j q' x', j ≤ 1 ∧ q' + j = q ∧ RdLive c name 2 L (!y.up) x' q' rest ∧
      ((B = true ∧ e = .returned (.tuple #[ndV r.a r.b r.c, .bool true, .int .i64 0]) ∧ CurTo c cb b G { s with D := s.D.readsN j } x' { y with last := r.n3, given := y.given + 1 } w w') ∨
       (B = false ∧ e = .returned (.tuple #[ndV 0 0 0, .bool false, .int .i64 72]) ∧ CurTo c cb b G { s with D := s.D.readsN j } x' { y with dead := 72 } w w')) := by
  obtain ⟨W, hW⟩ : ∃ W, W = w.alloc (.cells #[.int .u64 0, .int .u64 0, .int .u64 0] 46) := ⟨_, rfl⟩
  have kW : Keep Nil w W := by rw [hW]; exact (Keep.refl Nil w).alloc _
  have hbW := h.blk.keep kW (fun h => h)
  have hlt := h.blk.lt
  have HNX := Hid.intro_ (fun (W1 : World) (k1 : Keep Nil W W1) => show Calls Tryz.prog 102 #[.pointer (some ⟨b, 0, none⟩)] W1 fun e w2 => e = .returned (.tuple #[r.val, .bool true, .int .i64 0]) ∧ ∃ j q' x', j ≤ 1 ∧ q' + j = q ∧ RdLive c name 2 L (!y.up) x' q' rest ∧ CurTo c cb b G { s with D := s.D.readsN j } x' y W1 w2 by
    obtain ⟨Gr, hrd, _, hvia⟩ := ((h.nil kW).nil k1).via
    refine (next_live hrd hv ht hcm hr).mono fun e w2 ⟨he, hq⟩ => ?_
    obtain ⟨j, q', x', h1, h2, h3, h4⟩ := hq.out
    exact ⟨he, j, q', x', h1, h2, h3, hvia _ _ _ h4⟩)
  have c10 : W.cell? ⟨cb, 10, none⟩ = some (.bool false) := by rw [← hd]; exact hbW.at_ 10
  have c9 : W.cell? ⟨cb, 9, none⟩ = some (.int .i64 0) := by rw [← hz]; exact hbW.at_ 9
  have c5 : W.cell? ⟨cb, 5, none⟩ = some (.int .i64 y.given) := hbW.at_ 5
  have c4 : W.cell? ⟨cb, 4, none⟩ = some (.int .i64 y.nodes) := hbW.at_ 4
  have c0 : W.cell? ⟨cb, 0, none⟩ = some (.pointer (some ⟨b, 0, none⟩)) := hbW.at_ 0
  have qg : ((y.given : Int) == (y.nodes : Int)) = false := by
    have : ¬ (y.given : Int) = (y.nodes : Int) := by omega
    simpa using this
  have HH := Hid.intro_ h
  have HRO := Hid.intro_ hro
  have HIN := Hid.intro_ hin
  have HNO := Hid.intro_ (fun W2 => nodeof_any r.a r.b r.c r.d y.vars (by omega) hro.a hro.b hro.c W2)
  have HD := Hid.intro_ hd
  have HZ := Hid.intro_ hz
  unfold R4.val rcV ndV at *
  have HBB := Hid.intro_ hB
  clear h hv ht hcm hr hd hz hin hro hB
  go_enter Tryz.func85, Tryz.ntmps85
  go_upto_region 1 with (fail)
  rw [← hW]
  have HW := Hid.intro_ hW
  clear hW
  go_wp2_with fail
  go_quiet (fail)
  obtain ⟨W1, k1, hW1⟩ : ∃ W1, Keep Nil W W1 ∧ W1 = W.drewN nq := ⟨_, (Keep.refl Nil W).drewN _, rfl⟩
  rw [← hW1]
  have d0 := cell_keep c0 k1 (fun h => h)
  have HN1 := Hid.intro_ (HNX.out W1 k1)
  have K1 := Hid.intro_ k1
  clear c10 c9 c5 c4 c0 hW1 k1 HNX hbW
  go_wp2_with fail
  refine HN1.out.mono ?_
  rintro e w2 ⟨rfl, j, q', x', hj1, hj, hv', hto⟩
  -- the world where the rest begins, and the cell of the result
  have hb0 : Blk w2 w.heap.size 46 #[.int .u64 0, .int .u64 0, .int .u64 0] := by
    obtain ⟨G1, h1, s1⟩ := hto
    have hbW : Blk W w.heap.size 46 #[.int .u64 0, .int .u64 0, .int .u64 0] := by rw [HW.out]; exact Blk.new w _ _
    exact (hbW.keep K1.out (fun h => h)).keep s1.keep (fun hg => Nat.lt_irrefl _ (HH.out.lt _ hg))
  have hfin : Hid (∀ X y', Keep (fun z => z = w.heap.size ∨ z = cb) w2 X → Blk X cb 195 (cuCells b y') → CurTo c cb b G { s with D := s.D.readsN j } x' y' w X) := Hid.intro_ (fun X y' kX hbX => by
    obtain ⟨G1, h1, s1⟩ := hto
    have s0 := (Stp.of_nil (kW.then_ K1.out) G).trans s1
    have hGcb : G cb := by
      obtain ⟨G0', hG, _, _⟩ := HH.out.out
      rw [hG]
      exact .inr rfl
    have h9 : w.heap.size < W.heap.size := by rw [HW.out]; simp
    have h8 := K1.out.size
    have off1 : Off c.E G1 w.heap.size := (Off.new HH.out.env HH.out.lt (Nat.le_refl _)).step (w := W1) (by omega) s1
    obtain ⟨G0, rfl, hw, nb⟩ := h1.out
    refine ⟨_, ⟨⟨G0, rfl, hw.keep kX (fun z hz => ?_), nb⟩, hbX⟩, ?_⟩
    · rcases hz with e | e
      · rw [e]; exact ⟨fun hg => off1.1 (.inl hg), off1.2⟩
      · rw [e]; exact nb
    · refine ⟨s0.keep.trans kX (fun z hz e => ?_), s0.grow⟩
      rcases e with e | e
      · omega
      · rw [e]; exact hGcb)
  have hb1 : Blk w2 cb 195 (cuCells b y) := by
    obtain ⟨G1, h1, s1⟩ := hto
    exact h1.blk
  have HB0 := Hid.intro_ hb0
  have HB1 := Hid.intro_ hb1
  have HV := Hid.intro_ hv'
  clear hto hv' kW
  obtain ⟨W2, hW2⟩ : ∃ W2, W2 = w2.alloc (.cells #[.int .u64 r.a, .int .u64 r.b, .int .u64 r.c, .int .u64 r.d] 111) := ⟨_, rfl⟩
  have kW2 : Keep Nil w2 W2 := by rw [hW2]; exact (Keep.refl Nil w2).alloc _
  have bR : Blk W2 w2.heap.size 111 #[.int .u64 r.a, .int .u64 r.b, .int .u64 r.c, .int .u64 r.d] := by rw [hW2]; exact Blk.new w2 _ _
  have v2 : W2.cell? ⟨cb, 2, none⟩ = some (.int .i64 y.vars) := (hb1.keep kW2 (fun h => h)).at_ 2
  have r0 : W2.cell? ⟨w2.heap.size, 0, none⟩ = some (.int .u64 r.a) := bR.at_ 0
  have r1 : W2.cell? ⟨w2.heap.size, 1, none⟩ = some (.int .u64 r.b) := bR.at_ 1
  have r2 : W2.cell? ⟨w2.heap.size, 2, none⟩ = some (.int .u64 r.c) := bR.at_ 2
  have r3 : W2.cell? ⟨w2.heap.size, 3, none⟩ = some (.int .u64 r.d) := bR.at_ 3
  have KW2 := Hid.intro_ kW2
  obtain ⟨ok, hok⟩ : ∃ ok, ok = isN r.a r.b r.c r.d y.vars := ⟨_, rfl⟩
  rw [← hok] at HNO
  have HOK := Hid.intro_ hok
  clear hb0 hb1 kW2 bR hok
  have lt0 := HB0.out.lt
  have lt1 := HB1.out.lt
  have hne : ¬ cb = w.heap.size := by omega
  have hne2 : ¬ w.heap.size = cb := by omega
  have hW2s := Hid.intro_ (show W2.heap.size = w2.heap.size + 1 by rw [hW2]; simp)
  have hbad : Hid (∀ V, Keep Nil w2 V → ∀ X, X = (((V.setCell ⟨cb, 9, none⟩ (.int .i64 72)).setCell ⟨w.heap.size, 0, none⟩ (.int .u64 0)).setCell ⟨w.heap.size, 1, none⟩ (.int .u64 0)).setCell ⟨w.heap.size, 2, none⟩ (.int .u64 0) →
      X.cell? ⟨w.heap.size, 0, none⟩ = some (.int .u64 0) ∧ X.cell? ⟨w.heap.size, 1, none⟩ = some (.int .u64 0) ∧ X.cell? ⟨w.heap.size, 2, none⟩ = some (.int .u64 0) ∧ CurTo c cb b G { s with D := s.D.readsN j } x' { y with dead := 72 } w X) := Hid.intro_ (fun V kV X hX => by
    have k1 := (kV.mono (G := fun z => z = w.heap.size ∨ z = cb) (fun _ _ h => h.elim)).setCell (p := ⟨cb, 9, none⟩) (fun _ => .inr rfl) (.int .i64 72)
    have k2 := ((k1.setCell (p := ⟨w.heap.size, 0, none⟩) (fun _ => .inl rfl) (.int .u64 0)).setCell (p := ⟨w.heap.size, 1, none⟩) (fun _ => .inl rfl) (.int .u64 0)).setCell (p := ⟨w.heap.size, 2, none⟩) (fun _ => .inl rfl) (.int .u64 0)
    have b1 := (HB1.out.keep kV (fun h => h)).set_ 9 (.int .i64 72)
    have b2 := ((b1.far (p := ⟨w.heap.size, 0, none⟩) hne (.int .u64 0)).far (p := ⟨w.heap.size, 1, none⟩) hne (.int .u64 0)).far (p := ⟨w.heap.size, 2, none⟩) hne (.int .u64 0)
    have r1 := (HB0.out.keep kV (fun h => h)).far (p := ⟨cb, 9, none⟩) hne2 (.int .i64 72)
    have r2 := ((r1.set_ 0 (.int .u64 0)).set_ 1 (.int .u64 0)).set_ 2 (.int .u64 0)
    subst hX
    exact ⟨r2.at_ 0, r2.at_ 1, r2.at_ 2, hfin.out _ { y with dead := 72 } k2 b2⟩)
  have hgood : Hid (∀ V, Keep Nil w2 V → ∀ X, X = (((((((V.setCell ⟨cb, 6, none⟩ (.int .u64 r.a)).setCell ⟨cb, 7, none⟩ (.int .u64 r.b)).setCell ⟨cb, 8, none⟩ (.int .u64 r.c)).setCell ⟨cb, 5, none⟩ (.int .i64 ((y.given : Int) + 1))).setCell ⟨w.heap.size, 0, none⟩ (.int .u64 r.a)).setCell ⟨w.heap.size, 1, none⟩ (.int .u64 r.b)).setCell ⟨w.heap.size, 2, none⟩ (.int .u64 r.c)) →
      X.cell? ⟨w.heap.size, 0, none⟩ = some (.int .u64 r.a) ∧ X.cell? ⟨w.heap.size, 1, none⟩ = some (.int .u64 r.b) ∧ X.cell? ⟨w.heap.size, 2, none⟩ = some (.int .u64 r.c) ∧ CurTo c cb b G { s with D := s.D.readsN j } x' { y with last := r.n3, given := y.given + 1 } w X) := Hid.intro_ (fun V kV X hX => by
    have k1 := ((((kV.mono (G := fun z => z = w.heap.size ∨ z = cb) (fun _ _ h => h.elim)).setCell (p := ⟨cb, 6, none⟩) (fun _ => .inr rfl) (.int .u64 r.a)).setCell (p := ⟨cb, 7, none⟩) (fun _ => .inr rfl) (.int .u64 r.b)).setCell (p := ⟨cb, 8, none⟩) (fun _ => .inr rfl) (.int .u64 r.c)).setCell (p := ⟨cb, 5, none⟩) (fun _ => .inr rfl) (.int .i64 ((y.given : Int) + 1))
    have k2 := ((k1.setCell (p := ⟨w.heap.size, 0, none⟩) (fun _ => .inl rfl) (.int .u64 r.a)).setCell (p := ⟨w.heap.size, 1, none⟩) (fun _ => .inl rfl) (.int .u64 r.b)).setCell (p := ⟨w.heap.size, 2, none⟩) (fun _ => .inl rfl) (.int .u64 r.c)
    have b1 := ((((HB1.out.keep kV (fun h => h)).set_ 6 (.int .u64 r.a)).set_ 7 (.int .u64 r.b)).set_ 8 (.int .u64 r.c)).set_ 5 (.int .i64 ((y.given : Int) + 1))
    have b2 := ((b1.far (p := ⟨w.heap.size, 0, none⟩) hne (.int .u64 r.a)).far (p := ⟨w.heap.size, 1, none⟩) hne (.int .u64 r.b)).far (p := ⟨w.heap.size, 2, none⟩) hne (.int .u64 r.c)
    have r1 := ((((HB0.out.keep kV (fun h => h)).far (p := ⟨cb, 6, none⟩) hne2 (.int .u64 r.a)).far (p := ⟨cb, 7, none⟩) hne2 (.int .u64 r.b)).far (p := ⟨cb, 8, none⟩) hne2 (.int .u64 r.c)).far (p := ⟨cb, 5, none⟩) hne2 (.int .i64 ((y.given : Int) + 1))
    have r2 := ((r1.set_ 0 (.int .u64 r.a)).set_ 1 (.int .u64 r.b)).set_ 2 (.int .u64 r.c)
    subst hX
    exact ⟨r2.at_ 0, r2.at_ 1, r2.at_ 2, hfin.out _ { y with last := r.n3, given := y.given + 1 } k2 (by simpa [cuCells, R4.n3] using b2)⟩)
  go_upto_region 8 with (fail)
  rw [← hW2]
  clear hW2
  go_cut [8, 9] from 49 to 57 (fun v8 v9 wd => AskedN W2 r ok v8 v9 wd)
  case first =>
    have e0 := World.new_ne W2 _ r0
    have e2 := World.new_ne W2 _ v2
    simp only at e0 e2
    go_region_held3 (fun w' => w'.cell? ⟨cb, 2, none⟩ = some (.int .i64 y.vars) ∧ w'.cell? ⟨w2.heap.size, 0, none⟩ = some (.int .u64 r.a) ∧ w'.cell? ⟨w2.heap.size, 1, none⟩ = some (.int .u64 r.b) ∧ w'.cell? ⟨w2.heap.size, 2, none⟩ = some (.int .u64 r.c) ∧ w'.cell? ⟨w2.heap.size, 3, none⟩ = some (.int .u64 r.d))
      (first | exact ⟨v2, r0, r1, r2, r3⟩ | exact hS2.out | go_keep)
      (first
        | (go_at_call 157; refine (HNO.out _).mono ?_; rintro e w3 ⟨a1, a2, a3, rfl, ha, k2⟩
           have kz := (Keep.refl Nil W2).drew.then_ k2
           have x0' := cell_keep v2 kz (fun h => h)
           have p0' := cell_keep r0 kz (fun h => h)
           have p1' := cell_keep r1 kz (fun h => h)
           have p2' := cell_keep r2 kz (fun h => h)
           have p3' := cell_keep r3 kz (fun h => h)
           have e0' := World.new_ne w3 _ x0'
           have e2' := World.new_ne w3 _ p0'
           simp only at e0' e2'
           have hS2 := Hid.intro_ (And.intro x0' (And.intro p0' (And.intro p1' (And.intro p2' p3'))))
           have KZ := Hid.intro_ kz
           have HAA := Hid.intro_ ha
           have HLE := Hid.intro_ kz.size
           clear k2 kz ha)
        | (go_at_call 157; refine (HNO.out _).mono ?_; rintro e w3 ⟨a1, a2, a3, rfl, ha, k2⟩
           have kz := ((Keep.refl Nil W2).alloc (.cells #[.int .u64 0, .int .u64 0, .int .u64 0] 46)).drew.then_ k2
           have x0' := cell_keep v2 kz (fun h => h)
           have p0' := cell_keep r0 kz (fun h => h)
           have p1' := cell_keep r1 kz (fun h => h)
           have p2' := cell_keep r2 kz (fun h => h)
           have p3' := cell_keep r3 kz (fun h => h)
           have bz := (Blk.new W2 46 #[.int .u64 0, .int .u64 0, .int .u64 0]).drew.keep k2 (fun h => h)
           have z0 : w3.cell? ⟨W2.heap.size, 0, none⟩ = some (.int .u64 0) := bz.at_ 0
           have z1 : w3.cell? ⟨W2.heap.size, 1, none⟩ = some (.int .u64 0) := bz.at_ 1
           have z2 : w3.cell? ⟨W2.heap.size, 2, none⟩ = some (.int .u64 0) := bz.at_ 2
           have zf0 := bz.fr 0
           have zf1 := bz.fr 1
           have zf2 := bz.fr 2
           have hS2 := Hid.intro_ (And.intro x0' (And.intro p0' (And.intro p1' (And.intro p2' p3'))))
           have KZ := Hid.intro_ kz
           have BZ := Hid.intro_ bz
           have HAA := Hid.intro_ ha
           clear k2 kz bz ha))
    all_goals
      go_wp2_with fail
      go_meet
      first
        | exact ⟨w3.heap.size, a1, a2, a3, rfl, rfl, KZ.out.alloc _, Blk.new w3 _ _, HLE.out, HAA.out⟩
        | exact ⟨W2.heap.size, a1, a2, a3, rfl, rfl, ((KZ.out.setCell (p := ⟨W2.heap.size, 0, none⟩) (fun h => absurd h (Nat.lt_irrefl _)) _).setCell (p := ⟨W2.heap.size, 1, none⟩) (fun h => absurd h (Nat.lt_irrefl _)) _).setCell (p := ⟨W2.heap.size, 2, none⟩) (fun h => absurd h (Nat.lt_irrefl _)) _, ((BZ.out.set_ 0 _).set_ 1 _).set_ 2 _, Nat.le_refl _, HAA.out⟩
  case rest =>
    obtain ⟨T, a1, a2, a3, rfl, rfl, kT, bT, hT, ha⟩ := hcut
    have hTw : w2.heap.size < T := by have := hW2s.out; omega
    have hTn1 : ¬ T = cb := by omega
    have hTn2 : ¬ T = w.heap.size := by omega
    have hTn3 : ¬ cb = T := by omega
    have hTn4 : ¬ w.heap.size = T := by omega
    have KT := Hid.intro_ (KW2.out.then_ kT)
    have HAA := Hid.intro_ ha
    have BT := Hid.intro_ bT
    clear v2 r0 r1 r2 r3 kT bT ha hT hTw
    have hdead := deadly_shape
    cases ok
    · have HBF := Hid.intro_ (show B = false by rw [HBB.out]; unfold R4.isN; rw [← HOK.out]; rfl)
      have hbX := HB1.out.keep KT.out (fun h => h)
      have rX := HB0.out.keep KT.out (fun h => h)
      have tX := BT.out
      have x9 : wc.cell? ⟨cb, 9, none⟩ = some (.int .i64 0) := by rw [← HZ.out]; exact hbX.at_ 9
      have x5 : wc.cell? ⟨cb, 5, none⟩ = some (.int .i64 y.given) := hbX.at_ 5
      have x6 : wc.cell? ⟨cb, 6, none⟩ = some (.int .u64 y.last.self) := hbX.at_ 6
      have x7 : wc.cell? ⟨cb, 7, none⟩ = some (.int .u64 y.last.low) := hbX.at_ 7
      have x8 : wc.cell? ⟨cb, 8, none⟩ = some (.int .u64 y.last.high) := hbX.at_ 8
      have f5 := hbX.fr 5
      have f6 := hbX.fr 6
      have f7 := hbX.fr 7
      have f8 := hbX.fr 8
      have f9 := hbX.fr 9
      have z0 : wc.cell? ⟨w.heap.size, 0, none⟩ = some (.int .u64 0) := rX.at_ 0
      have z1 : wc.cell? ⟨w.heap.size, 1, none⟩ = some (.int .u64 0) := rX.at_ 1
      have z2 : wc.cell? ⟨w.heap.size, 2, none⟩ = some (.int .u64 0) := rX.at_ 2
      have g0 := rX.fr 0
      have g1 := rX.fr 1
      have g2 := rX.fr 2
      have t0 : wc.cell? ⟨T, 0, none⟩ = some (.int .u64 a1) := tX.at_ 0
      have t1 : wc.cell? ⟨T, 1, none⟩ = some (.int .u64 a2) := tX.at_ 1
      have t2 : wc.cell? ⟨T, 2, none⟩ = some (.int .u64 a3) := tX.at_ 2
      clear hbX rX tX
      go_wp2_with (go_at_call 159; refine (hdead _).mono ?_; rintro e w' ⟨rfl, hw⟩; obtain rfl := hw.symm)
      generalize hXX : (((wc.setCell ⟨cb, 9, none⟩ (.int .i64 72)).setCell ⟨w.heap.size, 0, none⟩ (.int .u64 0)).setCell ⟨w.heap.size, 1, none⟩ (.int .u64 0)).setCell ⟨w.heap.size, 2, none⟩ (.int .u64 0) = X9 at *
      obtain ⟨y0, y1, y2, hto⟩ := hbad.out wc KT.out X9 hXX.symm
      refine bodyPost_ret (v := .tuple #[.agg #[.int .u64 0, .int .u64 0, .int .u64 0], .bool false, .int .i64 72]) (by simp [results, Tryz.results85, go_sem, y0, y1, y2]) rfl ⟨j, q', x', hj1, hj, HV.out, .inr ⟨HBF.out, rfl, hto⟩⟩
    · obtain ⟨rfl, rfl, rfl⟩ := HAA.out rfl
      obtain ⟨F, hF⟩ : ∃ F, F = fitsB y.up y.root y.nodes y.given y.last r.n3 := ⟨_, rfl⟩
      have HBF := Hid.intro_ (show B = F by rw [HBB.out, hF]; unfold R4.isN; rw [← HOK.out]; rfl)
      have hft := fits_any b cb y r.n3 wc (HB1.out.keep KT.out (fun h => h)) (isN_in (by rw [← HOK.out] : isN r.a r.b r.c r.d y.vars = true)) HIN.out (by omega)
      rw [← hF] at hft
      unfold ndV R4.n3 at hft
      have HFT := Hid.intro_ hft
      have tX := BT.out
      have t0 : wc.cell? ⟨T, 0, none⟩ = some (.int .u64 r.a) := tX.at_ 0
      have t1 : wc.cell? ⟨T, 1, none⟩ = some (.int .u64 r.b) := tX.at_ 1
      have t2 : wc.cell? ⟨T, 2, none⟩ = some (.int .u64 r.c) := tX.at_ 2
      clear hft hF tX
      go_wp2_with fail
      refine HFT.out.mono ?_
      rintro e w5 ⟨rfl, k5⟩
      have K5 := Hid.intro_ (KT.out.then_ k5)
      have tX := BT.out.keep k5 (fun h => h)
      have hbX := HB1.out.keep K5.out (fun h => h)
      have rX := HB0.out.keep K5.out (fun h => h)
      clear t0 t1 t2 k5
      have x9 : w5.cell? ⟨cb, 9, none⟩ = some (.int .i64 0) := by rw [← HZ.out]; exact hbX.at_ 9
      have x5 : w5.cell? ⟨cb, 5, none⟩ = some (.int .i64 y.given) := hbX.at_ 5
      have x6 : w5.cell? ⟨cb, 6, none⟩ = some (.int .u64 y.last.self) := hbX.at_ 6
      have x7 : w5.cell? ⟨cb, 7, none⟩ = some (.int .u64 y.last.low) := hbX.at_ 7
      have x8 : w5.cell? ⟨cb, 8, none⟩ = some (.int .u64 y.last.high) := hbX.at_ 8
      have f5 := hbX.fr 5
      have f6 := hbX.fr 6
      have f7 := hbX.fr 7
      have f8 := hbX.fr 8
      have f9 := hbX.fr 9
      have z0 : w5.cell? ⟨w.heap.size, 0, none⟩ = some (.int .u64 0) := rX.at_ 0
      have z1 : w5.cell? ⟨w.heap.size, 1, none⟩ = some (.int .u64 0) := rX.at_ 1
      have z2 : w5.cell? ⟨w.heap.size, 2, none⟩ = some (.int .u64 0) := rX.at_ 2
      have g0 := rX.fr 0
      have g1 := rX.fr 1
      have g2 := rX.fr 2
      have t0 : w5.cell? ⟨T, 0, none⟩ = some (.int .u64 r.a) := tX.at_ 0
      have t1 : w5.cell? ⟨T, 1, none⟩ = some (.int .u64 r.b) := tX.at_ 1
      have t2 : w5.cell? ⟨T, 2, none⟩ = some (.int .u64 r.c) := tX.at_ 2
      have wg : wrap64 ((y.given : Int) + 1) = (y.given : Int) + 1 := wrap_low _ (by omega)
      clear hbX rX tX
      cases F
      · go_wp2_with (go_at_call 159; refine (hdead _).mono ?_; rintro e w' ⟨rfl, hw⟩; obtain rfl := hw.symm)
        generalize hXX : (((w5.setCell ⟨cb, 9, none⟩ (.int .i64 72)).setCell ⟨w.heap.size, 0, none⟩ (.int .u64 0)).setCell ⟨w.heap.size, 1, none⟩ (.int .u64 0)).setCell ⟨w.heap.size, 2, none⟩ (.int .u64 0) = X9 at *
        obtain ⟨y0, y1, y2, hto⟩ := hbad.out w5 K5.out X9 hXX.symm
        refine bodyPost_ret (v := .tuple #[.agg #[.int .u64 0, .int .u64 0, .int .u64 0], .bool false, .int .i64 72]) (by simp [results, Tryz.results85, go_sem, y0, y1, y2]) rfl ⟨j, q', x', hj1, hj, HV.out, .inr ⟨HBF.out, rfl, hto⟩⟩
      · go_wp2_with fail
        generalize hXX : (((((((w5.setCell ⟨cb, 6, none⟩ (.int .u64 r.a)).setCell ⟨cb, 7, none⟩ (.int .u64 r.b)).setCell ⟨cb, 8, none⟩ (.int .u64 r.c)).setCell ⟨cb, 5, none⟩ (.int .i64 ((y.given : Int) + 1))).setCell ⟨w.heap.size, 0, none⟩ (.int .u64 r.a)).setCell ⟨w.heap.size, 1, none⟩ (.int .u64 r.b)).setCell ⟨w.heap.size, 2, none⟩ (.int .u64 r.c)) = X9 at *
        obtain ⟨y0, y1, y2, hto⟩ := hgood.out w5 K5.out X9 hXX.symm
        refine bodyPost_ret (v := .tuple #[.agg #[.int .u64 r.a, .int .u64 r.b, .int .u64 r.c], .bool true, .int .i64 0]) (by simp [results, Tryz.results85, go_sem, y0, y1, y2]) rfl ⟨j, q', x', hj1, hj, HV.out, .inl ⟨HBF.out, rfl, hto⟩⟩
end
end Go.Proofs.YtadipinnbehhhaaGreatDoor
namespace Go.Proofs.YtadipinnbehhhaaGreatDoor
open Go.RowKit

section
variable {c : Cx} {w w' w2 : World} {cb b : Nat} {G G' : Nat → Prop} {s s' : RSt} {x x' : RdSt} {y y' : CuSt} {fs : List (ByteArray × AFile)} {name : ByteArray} {L rem : List R4} {q : Nat} {l : List N3} {bad up : Bool} {v r m : Nat}

theorem RdLive.oks {back : Bool} {kind : Nat} (h : RdLive c name kind L back x q rem) (hx : ∀ r ∈ x.list, r.Ok) (hL : ∀ r ∈ L, r.Ok) : ∀ r ∈ rem, r.Ok := by
  intro r hr
  rw [h.rm] at hr
  cases back with
  | true =>
    simp only [if_true] at hr
    rcases List.mem_append.1 hr with h1 | h1
    · exact hx r h1
    · exact hL r (List.mem_of_mem_take (List.mem_reverse.1 h1))
  | false =>
    simp only [Bool.false_eq_true, if_false] at hr
    rcases List.mem_append.1 hr with h1 | h1
    · exact hx r h1
    · exact hL r (List.mem_of_mem_drop h1)
theorem CurAt.oks (h : CurAt c w cb b G s x y) : ∀ r ∈ x.list, r.Ok := by
  obtain ⟨_, hr, _, _⟩ := h.via
  obtain ⟨_, _, _, _, _, _, hl⟩ := hr.out
  exact hl.oks
end
end Go.Proofs.YtadipinnbehhhaaGreatDoor
namespace Go.Proofs.YtadipinnbehhhaaGreatDoor
open Go.RowKit

theorem rd_at {w : World} {A : Option Addr} {xs : List Value} (h : Rd w A xs) (hne : xs ≠ []) : ∃ g o, A = some ⟨g, o, none⟩ := by
  obtain ⟨u, hu⟩ : ∃ u, xs[0]? = some u := ⟨_, List.getElem?_eq_getElem (List.length_pos_iff.2 hne)⟩
  obtain ⟨⟨g, o, sp⟩, rfl, c0⟩ := h _ _ hu
  have h9 : (Addr.add ⟨g, o, sp⟩ 0) = ⟨g, o, sp⟩ := by simp [Addr.add]
  rw [h9] at c0
  obtain rfl : sp = none := World.cell?_spot c0
  exact ⟨g, o, rfl⟩
theorem rc_ne {L : List R4} (h : L ≠ []) : rcCells L ≠ [] := fun e => by
  have := rcCells_len L
  rw [e] at this
  have h2 := List.length_pos_iff.2 h
  simp at this
  omega
theorem endL_some' {L : List R4} {v r m : Nat} (h : endL L = some (v, r, m)) : v ≤ 65536 ∧ m < 9223372036854775808 ∧ ∃ x rest, L.reverse = x :: rest ∧ x.b = v ∧ x.c = r ∧ x.d = m ∧ isE x.a x.b x.c x.d = true := by
  unfold endL at h
  cases hr : L.reverse with
  | nil => rw [hr] at h; cases h
  | cons x rest =>
    rw [hr] at h
    simp only at h
    split at h
    · rename_i he
      injection h with h
      injection h with h1 h2
      injection h2 with h2 h3
      subst h1 h2 h3
      have he2 := he
      unfold isE at he2
      simp only [Bool.and_eq_true, decide_eq_true_eq] at he2
      exact ⟨he2.1.1.2, he2.1.2, x, rest, rfl, rfl, rfl, rfl, he⟩
    · cases h
def openedL (L : List R4) : Option (Nat × Nat × Nat) := match endL L with
  | none => none
  | some (v, r, m) => if L.length = m + 1 then some (v, r, m) else none
end Go.Proofs.YtadipinnbehhhaaGreatDoor
namespace Go.Proofs.YtadipinnbehhhaaGreatDoor
open Go.RowKit

def n0 : N3 := ⟨0, 0, 0⟩
def ndCells (l : List N3) : List Value := l.flatMap fun n => [.int .u64 n.self, .int .u64 n.low, .int .u64 n.high]
theorem ndCells_app (a b : List N3) : ndCells (a ++ b) = ndCells a ++ ndCells b := by simp [ndCells]
theorem ndCells_at : ∀ (l : List N3) (k : Nat) (n : N3), l[k]? = some n → (ndCells l)[k * 3]? = some (.int .u64 n.self) ∧ (ndCells l)[k * 3 + 1]? = some (.int .u64 n.low) ∧ (ndCells l)[k * 3 + 2]? = some (.int .u64 n.high)
  | [], k, n, h => by simp at h
  | q :: l, 0, n, h => by
    simp only [List.getElem?_cons_zero, Option.some.injEq] at h
    subst h
    exact ⟨rfl, rfl, rfl⟩
  | q :: l, k + 1, n, h => by
    have ih := ndCells_at l k n (by simpa using h)
    have e : ndCells (q :: l) = .int .u64 q.self :: .int .u64 q.low :: .int .u64 q.high :: ndCells l := rfl
    rw [e, show (k + 1) * 3 = k * 3 + 1 + 1 + 1 by omega, show k * 3 + 1 + 1 + 1 + 1 = (k * 3 + 1) + 1 + 1 + 1 by omega, show k * 3 + 1 + 1 + 1 + 2 = (k * 3 + 2) + 1 + 1 + 1 by omega]
    simpa using ih
theorem info_node : (Tryz.prog.info? 46).map (fun i => (i.zero, i.size, i.bytes)) = some (some (.agg #[.int .u64 0, .int .u64 0, .int .u64 0]), 3, 24) := by kernel_rfl
/-- The last node, or none. -/
def lastN (P : List N3) : N3 := P.getLastD n0
/-- What has been taken when k records have been looked at. -/
structure WkInv (up : Bool) (v r m : Nat) (recs : List R4) (Q : List N3 × Bool) (k : Nat) (P : List N3) : Prop where
  len : P.length = k
  inn : ∀ n ∈ P, sIn n.self = true
  eq : Q = (P ++ (walkN up v r m (recs.drop k) k (lastN P)).1, (walkN up v r m (recs.drop k) k (lastN P)).2)
section
variable {up : Bool} {v r m : Nat} {recs : List R4} {Q : List N3 × Bool} {k : Nat} {P : List N3} {q : R4}
theorem WkInv.start : WkInv up v r m recs (walkN up v r m recs 0 n0) 0 [] := ⟨rfl, fun n h => by simp at h, rfl⟩
theorem lastN_snoc (P : List N3) (n : N3) : lastN (P ++ [n]) = n := by simp [lastN]
theorem drop_at (hq : recs[k]? = some q) : recs.drop k = q :: recs.drop (k + 1) := by
  obtain ⟨h, e⟩ := List.getElem?_eq_some_iff.1 hq
  rw [List.drop_eq_getElem_cons h, e]
theorem WkInv.good (h : WkInv up v r m recs Q k P) (hq : recs[k]? = some q) (hb : (q.isN v && fitsB up r m k (lastN P) q.n3) = true) : WkInv up v r m recs Q (k + 1) (P ++ [q.n3]) := by
  refine ⟨by simp [h.len], fun n hn => ?_, ?_⟩
  · rcases List.mem_append.1 hn with h1 | h1
    · exact h.inn n h1
    · rw [List.mem_singleton.1 h1]
      simp only [Bool.and_eq_true] at hb
      exact isN_in hb.1
  · rw [lastN_snoc, h.eq, drop_at hq]
    have e : walkN up v r m (q :: recs.drop (k + 1)) k (lastN P) = (q.n3 :: (walkN up v r m (recs.drop (k + 1)) (k + 1) q.n3).1, (walkN up v r m (recs.drop (k + 1)) (k + 1) q.n3).2) := by
      show (if q.isN v && fitsB up r m k (lastN P) q.n3 then _ else _) = _
      rw [if_pos hb]
    rw [e]
    simp
theorem WkInv.bad (h : WkInv up v r m recs Q k P) (hq : recs[k]? = some q) (hb : (q.isN v && fitsB up r m k (lastN P) q.n3) = false) : Q = (P, true) := by
  rw [h.eq, drop_at hq]
  have e : walkN up v r m (q :: recs.drop (k + 1)) k (lastN P) = ([], true) := by
    show (if q.isN v && fitsB up r m k (lastN P) q.n3 then _ else _) = _
    rw [if_neg (by simp [hb])]
  rw [e, List.append_nil]
theorem WkInv.ends (h : WkInv up v r m recs Q k P) (hk : recs.length ≤ k) : Q = (P, false) := by
  rw [h.eq, List.drop_eq_nil_of_le hk]
  show (P ++ [], false) = _
  rw [List.append_nil]
theorem lastN_at (h : P.length = k) (hk : 0 < k) : ∃ n, P[k - 1]? = some n ∧ lastN P = n ∧ n ∈ P := by
  obtain ⟨n, hn⟩ : ∃ n, P[k - 1]? = some n := ⟨_, List.getElem?_eq_getElem (by omega)⟩
  refine ⟨n, hn, ?_, List.mem_of_getElem? hn⟩
  unfold lastN
  rw [List.getLastD_eq_getLast?, List.getLast?_eq_getElem?, h, hn]
  rfl
end

/-- What stands when the reference has been asked whether that is a node. -/
def AskedR (W : World) (A1 A2 A3 : Nat) (ok : Bool) (v14 v15 : Value) (wd : World) : Prop := ∃ T, v14 = .pointer (some ⟨T, 0, none⟩) ∧ v15 = .bool ok ∧ Keep Nil W wd ∧ W.heap.size ≤ T ∧ Blk wd T 46 #[.int .u64 A1, .int .u64 A2, .int .u64 A3]
end Go.Proofs.YtadipinnbehhhaaGreatDoor
namespace Go.Proofs.YtadipinnbehhhaaGreatDoor
open Go.RowKit

section
variable {c : Cx} {fs : List (ByteArray × AFile)} {name : ByteArray} {L : List R4} {up bad o : Bool} {v r m cb b q k : Nat} {G0 G : Nat → Prop} {s0 s : RSt} {l : List N3} {w wr w' : World} {n : N3}

end

end Go.Proofs.YtadipinnbehhhaaGreatDoor
namespace Go.Proofs.YtadipinnbehhhaaGreatDoor
open Go.RowKit

theorem nd_at {w : World} {A : Option Addr} {l : List N3} (h : Rd w A (ndCells l)) {k : Nat} {n : N3} (hn : l[k]? = some n) (hs : ∀ a, A = some a → a.spot = none) :
    ∃ g o, A = some ⟨g, o, none⟩ ∧ w.cell? ⟨g, o + k * 3, none⟩ = some (.int .u64 n.self) ∧ w.cell? ⟨g, o + k * 3 + 1, none⟩ = some (.int .u64 n.low) ∧ w.cell? ⟨g, o + k * 3 + 2, none⟩ = some (.int .u64 n.high) := by
  obtain ⟨h0, h1, h2⟩ := ndCells_at l k n hn
  obtain ⟨⟨g, o, sp⟩, rfl, c0⟩ := h _ _ h0
  obtain rfl : sp = none := hs _ rfl
  obtain ⟨_, e, c1⟩ := h _ _ h1; injection e with e; subst e
  obtain ⟨_, e, c2⟩ := h _ _ h2; injection e with e; subst e
  rw [add_at] at c0 c1 c2
  exact ⟨g, o, rfl, c0, by rw [← Nat.add_assoc] at c1; exact c1, by rw [← Nat.add_assoc] at c2; exact c2⟩
end Go.Proofs.YtadipinnbehhhaaGreatDoor
namespace Go.Proofs.YtadipinnbehhhaaGreatDoor
open Go.RowKit

section
variable {c : Cx} {w w' : World} {b : Nat} {G : Nat → Prop} {s s' : RSt} {fs : List (ByteArray × AFile)} {name : ByteArray} {L rem : List R4} {v r m : Nat} {o : Option (Nat × Nat × Nat)} {n : Int}

/-- The answers stay where the purse is as it was. -/
theorem DSt.readable_readsN (D : DSt) (hc : Calm D c.block fs) (j : Nat) : (D.readsN j).readable name = D.readable name := by
  have h1 := hc.readsN j
  have e : (D.readsN j).length name = D.length name := by
    unfold DSt.length DSt.perr DSt.ferr
    rw [h1.files, hc.files, h1.on, hc.on]
  unfold DSt.readable
  rw [e]
theorem openR_went {K : Nat} {j : Nat} (hw : Went j 0 s s') (hc : Calm s.D c.block fs) (hn : openR s.D s.S K name 2 = (n, s.S)) (hz : ¬ n = 0) : openR s'.D s'.S K name 2 = (n, s'.S) := by
  have hfr : s'.S.frees = s.S.frees := by
    unfold PSt.frees
    rw [hw.limit, hw.hand, hw.parts, hw.closed, Int.add_zero]
  rw [hw.D]
  unfold openR at hn ⊢
  rw [DSt.readable_readsN s.D hc j, hfr]
  rw [if_neg (by omega)] at hn ⊢
  by_cases h1 : (s.D.readable name).2 = 0
  · rw [if_neg (by simpa using h1)] at hn ⊢
    by_cases h2 : s.S.frees < K
    · rw [if_pos h2] at hn ⊢
      injection hn with e1 e2
      rw [← e1]
    · rw [if_neg h2] at hn
      injection hn with e1 e2
      exact absurd e1.symm hz
  · rw [if_pos h1] at hn ⊢
    injection hn with e1 e2
    rw [← e1]
theorem LookAns.went {j : Nat} (ha : LookAns c s name o n) (hw : Went j 0 s s') (hc0 : Calm s.D c.block fs) : LookAns c s' name o n := by
  have hcl' := hw.closed
  have hh' := hw.hand
  have hl' := hw.limit
  have hp' := hw.parts
  cases ha with
  | bad _ hn hz h0 h1 =>
    have e1 := DSt.readable_readsN (name := name) s.D hc0 j
    exact .bad n (openR_went hw hc0 hn hz) hz (by rw [hw.D, e1]; exact h0) (by rw [hw.D, e1]; exact h1)
  | kind fs kind L t hc hne hL hcl hh hf => exact .kind fs kind L t (hw.calm hc) hne hL (by rw [hcl']; exact hcl) (by rw [hh']; omega) (by rw [hh', hl', hp']; omega)
  | tape fs L t hc hcl hh hf => exact .tape fs L t (hw.calm hc) (by rw [hcl']; exact hcl) (by rw [hh']; omega) (by rw [hh', hl', hp']; omega)
end
end Go.Proofs.YtadipinnbehhhaaGreatDoor
namespace Go.Proofs.YtadipinnbehhhaaGreatDoor
open Go.RowKit

section
variable (w : World) (E : Nat → Addr) (G : Nat → Prop) (g base : Nat) (m : Mo) (k9 level : Int) (low high root : Nat)

end
end Go.Proofs.YtadipinnbehhhaaGreatDoor
namespace Go.Proofs.YtadipinnbehhhaaGreatDoor
open Go.RowKit

section
variable (w : World) (E : Nat → Addr) (G : Nat → Prop) (g base : Nat) (m : Mo) (k9 level : Int) (low high root : Nat)

end
end Go.Proofs.YtadipinnbehhhaaGreatDoor
namespace Go.Proofs.YtadipinnbehhhaaGreatDoor
open Go.RowKit

section
variable {c : Cx} {w : World} {G : Nat → Prop} {s : RSt} {x : WSt} {y : BSt} {m : Mo} {fs : List (ByteArray × AFile)} {name : ByteArray} {L : Nat → Prop} {bb b g base n lim : Nat}

end
end Go.Proofs.YtadipinnbehhhaaGreatDoor
namespace Go.Proofs.YtadipinnbehhhaaGreatDoor
open Go.RowKit

section
variable {c : Cx} {w : World} {G : Nat → Prop} {s : RSt} {x : WSt} {y : BSt} {m : Mo} {fs : List (ByteArray × AFile)} {name : ByteArray} {L H : Nat → Prop} {bb b g base n lim : Nat}

end
end Go.Proofs.YtadipinnbehhhaaGreatDoor
namespace Go.Proofs.YtadipinnbehhhaaGreatDoor
open Go.RowKit

/-- The room that Open leaves. -/
theorem open_rm {X w2 : World} {E : Nat → Addr} {d p lk k m0 m K block : Nat} {blocks limit : Int} {fs : List (ByteArray × AFile)} (h : OpenAt X w2 d p lk k m0 m block blocks limit fs) (he : ErrsAt X E) (hh : HalvesAt X) (hm : MagicAt X) (hK : fit block = K) (hK0 : 0 < K) :
    RmAt ⟨E, d, p, lk, k, none, K, block⟩ w2 (RF (fun b => m0 ≤ b ∧ b < m) p lk k) ⟨mountD block blocks fs, PSt.new limit, 1⟩ ∧ ∀ z, RF (fun b => m0 ≤ b ∧ b < m) p lk k z → X.heap.size ≤ z := by
  obtain ⟨l1, l2, l3, l4, l5, l6⟩ := h.lt
  obtain ⟨R, hd⟩ := h.disk
  have hmd : m0 ≤ d ∧ d < m := hd.fd
  have hG : ∀ z, RF (fun b => m0 ≤ b ∧ b < m) p lk k z → X.heap.size ≤ z := fun z hz => by
    rcases hz with hz | (hz | hz) | hz <;> omega
  have hv : ∀ i, i < 9 → ¬ RF (fun b => m0 ≤ b ∧ b < m) p lk k (errVar i) := fun i hi hf => by
    have := hG _ hf
    have := he.old i hi
    omega
  have hb : ∀ i, i < 9 → ¬ RF (fun b => m0 ≤ b ∧ b < m) p lk k (E i).block := fun i hi hf => by
    have := hG _ hf
    obtain ⟨cs, t, hb⟩ := he.blk i hi
    have := lt_of_heap hb
    omega
  have hnh : ¬ RF (fun b => m0 ≤ b ∧ b < m) p lk k 11 := fun hf => by
    have := hG _ hf
    have := cell_lt (hh 0 (by decide))
    simp only at this
    omega
  have hnm : ¬ RF (fun b => m0 ≤ b ∧ b < m) p lk k 9 := fun hf => by
    have := hG _ hf
    have := cell_lt (hm 0 83 rfl)
    simp only at this
    omega
  have henv : Env w2 (RF (fun b => m0 ≤ b ∧ b < m) p lk k) E := ⟨he.keep h.keep (fun _ _ h => h) (fun _ _ h => h), hv, hb⟩
  refine ⟨⟨⟨_, rfl, ⟨R, hd⟩, h.purse, ?_, henv, fun hf => ?_, fun hf => ?_, fun hf => ?_⟩, ⟨henv, hh.keep h.keep (fun h => h), hm.keep h.keep (fun h => h), hnh, hnm⟩, rfl, hK, hK0⟩, hG⟩
  · have := h.desk
    rw [hK] at this
    exact this
  · have hf : m0 ≤ p ∧ p < m := hf
    omega
  · have hf : m0 ≤ lk ∧ lk < m := hf
    omega
  · have hf : m0 ≤ k ∧ k < m := hf
    omega
end Go.Proofs.YtadipinnbehhhaaGreatDoor
namespace Go.Proofs.YtadipinnbehhhaaGreatDoor
open Go.RowKit

def nmF : ByteArray := ⟨#[102]⟩
def nmG : ByteArray := ⟨#[103]⟩
def nmFF : ByteArray := ⟨#[102, 32, 102]⟩
def rdFile (how : Int) (L : List R4) (block : Nat) : AFile := if how = 1 then ⟨true, blocksB 1 L block⟩ else if how = 2 then ⟨false, blocksB 2 L block⟩ else ⟨true, blocksB 2 L block⟩
def rdName (how : Int) : ByteArray := if how = 3 then nmG else if how = 4 then nmFF else nmF
def rdErr (how : Int) (L : List R4) : Int := if how = 1 then (if L = [] then 0 else 32) else if how = 2 then 15 else if how = 3 then 12 else if how = 4 then 11 else if how = 5 then 2 else 0
end Go.Proofs.YtadipinnbehhhaaGreatDoor
namespace Go.Proofs.YtadipinnbehhhaaGreatDoor
open Go.RowKit

/-- A room's files: one more beside the stray. -/
def rdFs (F : AFile) (block : Nat) : List (ByteArray × AFile) := (nmF, F) :: strayFs block
/-- Two files in a row of their own. -/
theorem own_two {V : World} {B g : Nat} {cs : Array Value} (hg : B ≤ g) (h : Blk V g 55 cs) (hs : cs.size = 6) : V.ownsRow B 55 3 (.slice (some ⟨g, 0, none⟩) 2 2) 2 cs.toList := by
  refine ⟨by simp [hs], .inr ⟨g, 2, cs, rfl, hg, h, Nat.le_refl _, by simp [maxLen], by simp [hs], ?_⟩⟩
  exact List.take_of_length_le (by simp [hs])
end Go.Proofs.YtadipinnbehhhaaGreatDoor
namespace Go.Proofs.YtadipinnbehhhaaGreatDoor
open Go.RowKit

section
variable {block K : Nat} {how : Int} {L : List R4} {F : AFile}
theorem nmF_ok : okName nmF = true := by decide +kernel
theorem rd_names : (rdFs F block).map (·.1) = [nmF, nmOpen, nmZ] := rfl
def rdO (how : Int) (L : List R4) : Option (Nat × Nat × Nat) := if rdErr how L = 0 then endL L else none
def rdN (how : Int) (L : List R4) : Int := if rdErr how L = 0 then ansN (endL L) else rdErr how L
def rdLim (how : Int) (L : List R4) (K : Nat) : Int := if rdErr how L = 2 then (K : Int) - 1 else K
theorem blocksB_nil (kind : Nat) : blocksB kind [] block = [] := by
  have : nblk (block / 32 - 1) 0 = 0 := by
    by_cases hz : block / 32 - 1 = 0
    · rw [hz]; rfl
    · exact Nat.le_zero.1 (nblk_le _ 0 (by omega))
  apply List.eq_nil_of_length_eq_zero
  rw [blocksB_len]
  exact this
theorem rdFile_nil : rdFile 1 [] block = ⟨true, blocksB 2 [] block⟩ := by
  unfold rdFile
  rw [if_pos rfl, blocksB_nil, blocksB_nil]
theorem rd_fpos : fpos nmF (rdFs F block) = some (0, F) := by
  unfold rdFs fpos
  rw [if_pos rfl]
theorem rd_tapeOn {c : Cx} {kind : Nat} {fs : List (ByteArray × AFile)} (hp : fpos nmF fs = some (0, ⟨true, blocksB kind L c.block⟩)) (hk : 1 ≤ kind ∧ kind ≤ 255) (ho : ∀ r ∈ L, r.Ok) (hl : L.length ≤ 268435456) : TapeOn c fs nmF kind L :=
  ⟨nmF_ok, ⟨0, hp⟩, ho, by omega, hk⟩
/-- The answers, ahead of any read. -/
theorem rd_look {c : Cx} {s : RSt} (hc : Calm s.D c.block (rdFs (rdFile how L c.block) c.block)) (hS : s.S = PSt.new (rdLim how L c.K)) (ho : ∀ r ∈ L, r.Ok) (hl : L.length ≤ 268435456) :
    LookAns c s (rdName how) (rdO how L) (rdN how L) := by
  have hperr : ∀ n, s.D.perr n = s.D.ferr n := fun n => by unfold DSt.perr; rw [hc.on, if_neg (by simp)]
  have hcl : s.S.closed = false := by rw [hS]; rfl
  have hh : s.S.hand = 0 := by rw [hS]; rfl
  have hp : s.S.parts = 0 := by rw [hS]; rfl
  have hlm : s.S.limit = rdLim how L c.K := by rw [hS]; rfl
  by_cases h1 : how = 1
  · subst h1
    have en : rdName 1 = nmF := rfl
    by_cases hL : L = []
    · have ee : rdErr 1 L = 0 := by unfold rdErr; simp [hL]
      have eo : rdO 1 L = endL L := if_pos ee
      have eN : rdN 1 L = ansN (endL L) := if_pos ee
      have el : rdLim 1 L c.K = c.K := by unfold rdLim; rw [ee]; rfl
      rw [en, eo, eN]
      refine .tape _ L (rd_tapeOn (fs := rdFs (rdFile 1 L c.block) c.block) ?_ (by omega) ho hl) hc hcl (by omega) (by rw [hlm, el, hh, hp]; omega)
      rw [rd_fpos, hL, rdFile_nil]
    · have ee : rdErr 1 L = 32 := by unfold rdErr; simp [hL]
      have eo : rdO 1 L = none := if_neg (by rw [ee]; decide)
      have eN : rdN 1 L = 32 := by unfold rdN; rw [if_neg (by rw [ee]; decide), ee]
      have el : rdLim 1 L c.K = c.K := by unfold rdLim; rw [ee]; rfl
      rw [en, eo, eN]
      refine .kind _ 1 L (rd_tapeOn (fs := rdFs (rdFile 1 L c.block) c.block) ?_ (by omega) ho hl) hc (by decide) hL hcl (by omega) (by rw [hlm, el, hh, hp]; omega)
      rw [rd_fpos]
      rfl
  by_cases h2 : how = 2
  · subst h2
    have ee : rdErr 2 L = 15 := rfl
    have eo : rdO 2 L = none := if_neg (by rw [ee]; decide)
    have eN : rdN 2 L = 15 := by unfold rdN; rw [if_neg (by rw [ee]; decide), ee]
    rw [eo, eN]
    refine .bad 15 ?_ (by decide) ?_ ?_
    all_goals
      have er : s.D.readable nmF = (0, 15) := by
        have : s.D.length nmF = (((blocksB 2 L c.block).length : Int), false, 0) := by
          unfold DSt.length
          rw [hperr, show s.D.ferr nmF = none from by unfold DSt.ferr; rw [hc.files, rd_fpos, nmF_ok]; simp, hc.files, rd_fpos]
          rfl
        unfold DSt.readable
        rw [this]
        simp
      have en : rdName 2 = nmF := rfl
      rw [en]
    · unfold openR
      rw [if_neg (by omega), er, if_pos (by decide)]
    · rw [er]; decide
    · rw [er]; decide
  by_cases h3 : how = 3
  · subst h3
    have ee : rdErr 3 L = 12 := rfl
    have eo : rdO 3 L = none := if_neg (by rw [ee]; decide)
    have eN : rdN 3 L = 12 := by unfold rdN; rw [if_neg (by rw [ee]; decide), ee]
    rw [eo, eN]
    have en : rdName 3 = nmG := rfl
    have er : s.D.readable nmG = (0, 12) := by
      have hg : okName nmG = true := by decide +kernel
      have hf : fpos nmG (rdFs (rdFile 3 L c.block) c.block) = none := fpos_none (by
        rw [rd_names]
        intro h
        simp only [List.mem_cons, List.not_mem_nil, or_false] at h
        rcases h with h | h | h
        · exact absurd h (by decide +kernel)
        · exact absurd h (by decide +kernel)
        · exact absurd h (by decide +kernel))
      have : s.D.length nmG = (0, false, 12) := by
        unfold DSt.length
        rw [hperr, show s.D.ferr nmG = some 2 from by unfold DSt.ferr; rw [hc.files, hf, hg]; simp]
        rfl
      unfold DSt.readable
      rw [this]
      simp
    refine .bad 12 ?_ (by decide) ?_ ?_
    · rw [en]
      unfold openR
      rw [if_neg (by omega), er, if_pos (by decide)]
    · rw [en, er]; decide
    · rw [en, er]; decide
  by_cases h4 : how = 4
  · subst h4
    have ee : rdErr 4 L = 11 := rfl
    have eo : rdO 4 L = none := if_neg (by rw [ee]; decide)
    have eN : rdN 4 L = 11 := by unfold rdN; rw [if_neg (by rw [ee]; decide), ee]
    rw [eo, eN]
    have en : rdName 4 = nmFF := rfl
    have er : s.D.readable nmFF = (0, 11) := by
      have hg : okName nmFF = false := by decide +kernel
      have : s.D.length nmFF = (0, false, 11) := by
        unfold DSt.length
        rw [hperr, show s.D.ferr nmFF = some 1 from by unfold DSt.ferr; rw [hg]; simp]
        rfl
      unfold DSt.readable
      rw [this]
      simp
    refine .bad 11 ?_ (by decide) ?_ ?_
    · rw [en]
      unfold openR
      rw [if_neg (by omega), er, if_pos (by decide)]
    · rw [en, er]; decide
    · rw [en, er]; decide
  have en : rdName how = nmF := by unfold rdName; rw [if_neg h3, if_neg h4]
  have eF : rdFile how L c.block = ⟨true, blocksB 2 L c.block⟩ := by unfold rdFile; rw [if_neg h1, if_neg h2]
  have hT := rd_tapeOn (c := c) (fs := rdFs (rdFile how L c.block) c.block) (kind := 2) (L := L) (by rw [rd_fpos, eF]) (by omega) ho hl
  by_cases h5 : how = 5
  · have ee : rdErr how L = 2 := by unfold rdErr; rw [if_neg h1, if_neg h2, if_neg h3, if_neg h4, if_pos h5]
    have eo : rdO how L = none := if_neg (by rw [ee]; decide)
    have eN : rdN how L = 2 := by unfold rdN; rw [if_neg (by rw [ee]; decide), ee]
    have el : rdLim how L c.K = (c.K : Int) - 1 := by unfold rdLim; rw [ee]; rfl
    have er : s.D.readable nmF = (((blocksB 2 L c.block).length : Int), 0) := by
      have : s.D.length nmF = (((blocksB 2 L c.block).length : Int), true, 0) := by
        unfold DSt.length
        rw [hperr, show s.D.ferr nmF = none from by unfold DSt.ferr; rw [hc.files, rd_fpos, nmF_ok]; simp, hc.files, rd_fpos, eF]
      unfold DSt.readable
      rw [this]
      simp
    have hbl : (blocksB 2 L c.block).length ≤ 1099511627776 := by
      rw [blocksB_len]
      unfold nblk
      have : (L.length + (c.block / 32 - 1) - 1) / (c.block / 32 - 1) ≤ L.length + (c.block / 32 - 1) - 1 := Nat.div_le_self _ _
      by_cases hz : c.block / 32 - 1 = 0
      · rw [hz, Nat.div_zero]; omega
      · have : (L.length + (c.block / 32 - 1) - 1) / (c.block / 32 - 1) ≤ L.length := by
          have := nblk_le (c.block / 32 - 1) L.length (by omega)
          unfold nblk at this
          exact this
        omega
    rw [eo, eN]
    refine .bad 2 ?_ (by decide) ?_ ?_
    · rw [en]
      unfold openR
      rw [if_neg (by omega), er, if_neg (by simp), if_pos (by unfold PSt.frees; rw [hcl, hlm, el, hh, hp, if_neg (by simp)]; omega)]
    · rw [en, er]; simp
    · rw [en, er]; show ((blocksB 2 L c.block).length : Int) ≤ 1099511627776; omega
  · have ee : rdErr how L = 0 := by unfold rdErr; rw [if_neg h1, if_neg h2, if_neg h3, if_neg h4, if_neg h5]
    have eo : rdO how L = endL L := if_pos ee
    have eN : rdN how L = ansN (endL L) := if_pos ee
    have el : rdLim how L c.K = c.K := by unfold rdLim; rw [ee]; rfl
    rw [en, eo, eN]
    exact .tape _ L hT hc hcl (by omega) (by rw [hlm, el, hh, hp]; omega)
/-- The tape that is read. -/
theorem rd_tape {c : Cx} (ee : rdErr how L = 0) (ho : ∀ r ∈ L, r.Ok) (hl : L.length ≤ 268435456) : rdName how = nmF ∧ TapeOn c (rdFs (rdFile how L c.block) c.block) nmF 2 L := by
  by_cases h1 : how = 1
  · subst h1
    have hL : L = [] := by
      by_cases hL : L = []
      · exact hL
      · exfalso
        have : rdErr 1 L = 32 := by unfold rdErr; simp [hL]
        rw [this] at ee
        exact absurd ee (by decide)
    refine ⟨rfl, rd_tapeOn ?_ (by omega) ho hl⟩
    rw [rd_fpos, hL, rdFile_nil]
  have h2 : ¬ how = 2 := fun e => by rw [e] at ee; simp [rdErr] at ee
  have h3 : ¬ how = 3 := fun e => by rw [e] at ee; simp [rdErr] at ee
  have h4 : ¬ how = 4 := fun e => by rw [e] at ee; simp [rdErr] at ee
  refine ⟨by unfold rdName; rw [if_neg h3, if_neg h4], rd_tapeOn ?_ (by omega) ho hl⟩
  rw [rd_fpos]
  unfold rdFile
  rw [if_neg h1, if_neg h2]
end
end Go.Proofs.YtadipinnbehhhaaGreatDoor
