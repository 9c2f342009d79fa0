/- A cursor's Next and Close. A cursor that is open, as what it will give; closed. NodesReads: what the law says of a tape's end. NodesReads: the nodes that the law takes out of a tape, plain: the loop's invariant. -/
import Derived.Test.YtadipinnbehhhaaGreatDoorReadsRowAP
import Derived.Test.YtadipinnbehhhaaGreatDoorReadsRowAN
namespace Go.Proofs.YtadipinnbehhhaaGreatDoor
open Go.RowKit

set_option maxHeartbeats 1000000 in
theorem deadly_shape (w : World) : Calls Tryz.prog 159 #[.int .i64 72] w fun e w' => e = .returned (.bool true) ∧ w' = w := by
  go_enter Tryz.func159, Tryz.ntmps159
  go_wp2
  go_ret
  exact ⟨rfl, rfl⟩
/-- A cursor that is open, what it will give, how many blocks are not read. -/
structure LiveC (c : Cx) (name : ByteArray) (L : List R4) (up : Bool) (v r m : Nat) (cb b : Nat) (w : World) (G : Nat → Prop) (s : RSt) (q : Nat) (l : List N3) (bad : Bool) : Prop where mk ::
  out : ∃ x y rem, CurAt c w cb b G s x y ∧ RdLive c name 2 L (!y.up) x q rem ∧ CuLive y rem l bad ∧ y.up = up ∧ y.vars = v ∧ y.root = r ∧ y.nodes = m
/-- What Next leaves of it. -/
def NextC (c : Cx) (name : ByteArray) (L : List R4) (up : Bool) (v r m : Nat) (cb b : Nat) (G : Nat → Prop) (s : RSt) (q : Nat) (l : List N3) (bad : Bool) (w w' : World) : Prop :=
  ∃ j q' G', j ≤ 1 ∧ q' + j = q ∧ LiveC c name L up v r m cb b w' G' { s with D := s.D.readsN j } q' l bad ∧ Stp w G w' G'
def headV : List N3 → Value
  | [] => ndV 0 0 0
  | n :: _ => ndV n.self n.low n.high
def headE (bad : Bool) : List N3 → Int
  | [] => if bad = true then 72 else 0
  | _ :: _ => 0
/-- What stands when a record has been told. -/
def AskedN (W : World) (r : R4) (ok : Bool) (v8 v9 : Value) (wd : World) : Prop := ∃ T x y z : Nat, v8 = .pointer (some ⟨T, 0, none⟩) ∧ v9 = .bool ok ∧ Keep Nil W wd ∧ Blk wd T 46 #[.int .u64 x, .int .u64 y, .int .u64 z] ∧ W.heap.size ≤ T ∧ (ok = true → x = r.a ∧ y = r.b ∧ z = r.c)
section
variable {c : Cx} {w w' w2 : World} {cb b : Nat} {G G' : Nat → Prop} {s s' : RSt} {x x' : RdSt} {y y' : CuSt} {fs : List (ByteArray × AFile)} {name : ByteArray} {L rem : List R4} {q : Nat} {l : List N3} {bad : Bool}

theorem CurTo.new_cell {w1 w2 : World} (h : CurAt c w cb b G s x y) {o : Obj} (t : CurTo c cb b G s' x' y' (w.alloc o) w1) (k : Keep (fun z => z = w.heap.size) w1 w2) : CurTo c cb b G s' x' y' w w2 := by
  obtain ⟨G1, h1, s1⟩ := t
  have off0 : Off c.E G w.heap.size := Off.new h.env h.lt (Nat.le_refl _)
  have off1 := off0.step (w := w.alloc o) (by simp) s1
  refine ⟨G1, h1.keep k (fun z e => by rw [show z = w.heap.size from e]; exact off1), ?_⟩
  have s0 := (Stp.of_nil ((Keep.refl Nil w).alloc o) G).trans s1
  exact ⟨s0.keep.trans k (fun z hz e => by have : z = w.heap.size := e; omega), s0.grow⟩
theorem CurTo.kept {w1 : World} (h : CurAt c w cb b G s x y) {t : TypeId} {cs : Array Value} (ht : CurTo c cb b G s' x' y' (w.alloc (.cells cs t)) w1) : Blk w1 w.heap.size t cs := by
  obtain ⟨G1, h1, s1⟩ := ht
  exact (Blk.new w t cs).keep s1.keep (fun hg => Nat.lt_irrefl _ (h.lt _ hg))
/-- Three cells stored. -/
theorem set3_at {W : World} {g : Nat} {t : TypeId} {x0 x1 x2 : Value} (hb : Blk W g t #[x0, x1, x2]) (u v x : Value) (X : World) (hX : X = (((W.setCell ⟨g, 0, none⟩ u).setCell ⟨g, 1, none⟩ v).setCell ⟨g, 2, none⟩ x) ∨ X = (((W.setCell ⟨g, 0, none⟩ u).setCell ⟨g, 1, none⟩ v).setCell ⟨g, 2, none⟩ x).drew) :
    X.cell? ⟨g, 0, none⟩ = some u ∧ X.cell? ⟨g, 1, none⟩ = some v ∧ X.cell? ⟨g, 2, none⟩ = some x ∧ Keep (fun z => z = g) W X := by
  have hb3 := ((hb.set_ 0 u).set_ 1 v).set_ 2 x
  have kp := (((Keep.refl (fun z => z = g) W).setCell (p := ⟨g, 0, none⟩) (fun _ => rfl) u).setCell (p := ⟨g, 1, none⟩) (fun _ => rfl) v).setCell (p := ⟨g, 2, none⟩) (fun _ => rfl) x
  rcases hX with hX | hX
  · subst hX
    exact ⟨hb3.at_ 0, hb3.at_ 1, hb3.at_ 2, kp⟩
  · subst hX
    exact ⟨hb3.at_ 0, hb3.at_ 1, hb3.at_ 2, kp.drew⟩
set_option maxRecDepth 100000 in
set_option maxHeartbeats 2000000 in
/-- Next at a cursor that is dead, or has given all. -/
theorem cnext_none (n : Int) (h : CurAt c w cb b G s x y) (hd : y.done = false) (hc : (y.dead = n ∧ ¬ n = 0) ∨ (y.dead = 0 ∧ n = 0 ∧ y.given = y.nodes)) :
    Calls Tryz.prog 85 #[.pointer (some ⟨cb, 0, none⟩)] w fun e w' => e = .returned (.tuple #[ndV 0 0 0, .bool false, .int .i64 n]) ∧ CurTo c cb b G s x y w w' := by
  obtain ⟨W, hW⟩ : ∃ W, W = w.alloc (.cells #[.int .u64 0, .int .u64 0, .int .u64 0] 46) := ⟨_, rfl⟩
  have kW : Keep Nil w W := by rw [hW]; exact (Keep.refl Nil w).alloc _
  have bW : Blk W w.heap.size 46 #[.int .u64 0, .int .u64 0, .int .u64 0] := by rw [hW]; exact Blk.new w _ _
  have hbW := h.blk.keep kW (fun h => h)
  have hlt := h.blk.lt
  have hfin : Hid (∀ X, Keep (fun z => z = w.heap.size) W X → CurTo c cb b G s x y w X) := Hid.intro_ (fun X k => CurTo.new_cell h (o := .cells #[.int .u64 0, .int .u64 0, .int .u64 0] 46) (by rw [← hW]; exact CurTo.refl (h.nil kW)) k)
  have c10 : W.cell? ⟨cb, 10, none⟩ = some (.bool false) := by rw [← hd]; exact hbW.at_ 10
  have c9 : W.cell? ⟨cb, 9, none⟩ = some (.int .i64 y.dead) := hbW.at_ 9
  have c5 : W.cell? ⟨cb, 5, none⟩ = some (.int .i64 y.given) := hbW.at_ 5
  have c4 : W.cell? ⟨cb, 4, none⟩ = some (.int .i64 y.nodes) := hbW.at_ 4
  have z0 : W.cell? ⟨w.heap.size, 0, none⟩ = some (.int .u64 0) := bW.at_ 0
  have z1 : W.cell? ⟨w.heap.size, 1, none⟩ = some (.int .u64 0) := bW.at_ 1
  have z2 : W.cell? ⟨w.heap.size, 2, none⟩ = some (.int .u64 0) := bW.at_ 2
  have g0 := bW.fr 0
  have g1 := bW.fr 1
  have g2 := bW.fr 2
  have HBW := Hid.intro_ bW
  have hne : ¬ cb = w.heap.size := by omega
  have hne2 : ¬ w.heap.size = cb := by omega
  unfold ndV
  rcases hc with ⟨hc, hn⟩ | ⟨hc, hn, hg⟩
  · have qn : (n != 0) = true := by simpa using hn
    rw [hc] at c9
    clear hbW bW kW h hd hc hn
    go_enter Tryz.func85, Tryz.ntmps85
    go_upto_region 1 with (fail)
    rw [← hW]
    clear hW
    go_wp2_with fail
    (first | (go_region_held3 (fun w' => w'.cell? ⟨cb, 9, none⟩ = some (.int .i64 n)) (first | exact c9 | go_keep) ((first | fail))) | fail)
    all_goals
      go_wp2_with fail
      generalize hX : ((((W).setCell ⟨w.heap.size, 0, none⟩ (.int .u64 0)).setCell ⟨w.heap.size, 1, none⟩ (.int .u64 0)).setCell ⟨w.heap.size, 2, none⟩ (.int .u64 0)).drew = X at *
      obtain ⟨y0, y1, y2, kX⟩ := set3_at (HBW.out) (.int .u64 0) (.int .u64 0) (.int .u64 0) X (.inr hX.symm)
      refine bodyPost_ret (v := .tuple #[.agg #[.int .u64 0, .int .u64 0, .int .u64 0], .bool false, .int .i64 n]) (by simp [results, Tryz.results85, go_sem, y0, y1, y2]) rfl ⟨rfl, hfin.out X kX⟩
  · subst hn
    rw [hc] at c9
    have qg : ((y.given : Int) == (y.nodes : Int)) = true := by simp [hg]
    clear hbW bW kW h hd hc hg
    go_enter Tryz.func85, Tryz.ntmps85
    go_upto_region 1 with (fail)
    rw [← hW]
    clear hW
    go_wp2_with fail
    go_quiet (fail)
    go_wp2_with fail
    generalize hX : (((W.drewN nq).setCell ⟨w.heap.size, 0, none⟩ (.int .u64 0)).setCell ⟨w.heap.size, 1, none⟩ (.int .u64 0)).setCell ⟨w.heap.size, 2, none⟩ (.int .u64 0) = X at *
    obtain ⟨y0, y1, y2, kX⟩ := set3_at (HBW.out.drewN nq) (.int .u64 0) (.int .u64 0) (.int .u64 0) X (.inl hX.symm)
    refine bodyPost_ret (v := .tuple #[.agg #[.int .u64 0, .int .u64 0, .int .u64 0], .bool false, .int .i64 0]) (by simp [results, Tryz.results85, go_sem, y0, y1, y2]) rfl ⟨rfl, hfin.out X (((Keep.refl (fun z => z = w.heap.size) W).drewN nq).then_ kX)⟩
set_option maxRecDepth 100000 in
set_option maxHeartbeats 8000000 in
/-- Next at a cursor to whom a record is left. -/
theorem cnext_rec {r : R4} {rest : List R4} (h : CurAt c w cb b G s x y) (hv : RdLive c name 2 L (!y.up) x q rem) (ht : TapeOn c fs name 2 L) (hcm : Calm s.D c.block fs) (hr : rem = r :: rest) (hd : y.done = false) (hz : y.dead = 0) (hg : y.given < y.nodes) (hn40 : y.nodes ≤ 1099511627776) (hvars : y.vars ≤ 65536) (hin : 0 < y.given → sIn y.last.self = true)
    (hro : r.Ok) (B : Bool) (hB : B = (r.isN y.vars && fitsB y.up y.root y.nodes y.given y.last r.n3)) :
    Calls Tryz.prog 85 #[.pointer (some ⟨cb, 0, none⟩)] w fun e w' => ∃ j q' x', j ≤ 1 ∧ q' + j = q ∧ RdLive c name 2 L (!y.up) x' q' rest ∧
      ((B = true ∧ e = .returned (.tuple #[ndV r.a r.b r.c, .bool true, .int .i64 0]) ∧ CurTo c cb b G { s with D := s.D.readsN j } x' { y with last := r.n3, given := y.given + 1 } w w') ∨
       (B = false ∧ e = .returned (.tuple #[ndV 0 0 0, .bool false, .int .i64 72]) ∧ CurTo c cb b G { s with D := s.D.readsN j } x' { y with dead := 72 } w w')) := by
  obtain ⟨W, hW⟩ : ∃ W, W = w.alloc (.cells #[.int .u64 0, .int .u64 0, .int .u64 0] 46) := ⟨_, rfl⟩
  have kW : Keep Nil w W := by rw [hW]; exact (Keep.refl Nil w).alloc _
  have hbW := h.blk.keep kW (fun h => h)
  have hlt := h.blk.lt
  have HNX := Hid.intro_ (fun (W1 : World) (k1 : Keep Nil W W1) => show Calls Tryz.prog 102 #[.pointer (some ⟨b, 0, none⟩)] W1 fun e w2 => e = .returned (.tuple #[r.val, .bool true, .int .i64 0]) ∧ ∃ j q' x', j ≤ 1 ∧ q' + j = q ∧ RdLive c name 2 L (!y.up) x' q' rest ∧ CurTo c cb b G { s with D := s.D.readsN j } x' y W1 w2 by
    obtain ⟨Gr, hrd, _, hvia⟩ := ((h.nil kW).nil k1).via
    refine (next_live hrd hv ht hcm hr).mono fun e w2 ⟨he, hq⟩ => ?_
    obtain ⟨j, q', x', h1, h2, h3, h4⟩ := hq.out
    exact ⟨he, j, q', x', h1, h2, h3, hvia _ _ _ h4⟩)
  have c10 : W.cell? ⟨cb, 10, none⟩ = some (.bool false) := by rw [← hd]; exact hbW.at_ 10
  have c9 : W.cell? ⟨cb, 9, none⟩ = some (.int .i64 0) := by rw [← hz]; exact hbW.at_ 9
  have c5 : W.cell? ⟨cb, 5, none⟩ = some (.int .i64 y.given) := hbW.at_ 5
  have c4 : W.cell? ⟨cb, 4, none⟩ = some (.int .i64 y.nodes) := hbW.at_ 4
  have c0 : W.cell? ⟨cb, 0, none⟩ = some (.pointer (some ⟨b, 0, none⟩)) := hbW.at_ 0
  have qg : ((y.given : Int) == (y.nodes : Int)) = false := by
    have : ¬ (y.given : Int) = (y.nodes : Int) := by omega
    simpa using this
  have HH := Hid.intro_ h
  have HRO := Hid.intro_ hro
  have HIN := Hid.intro_ hin
  have HNO := Hid.intro_ (fun W2 => nodeof_any r.a r.b r.c r.d y.vars (by omega) hro.a hro.b hro.c W2)
  have HD := Hid.intro_ hd
  have HZ := Hid.intro_ hz
  unfold R4.val rcV ndV at *
  have HBB := Hid.intro_ hB
  clear h hv ht hcm hr hd hz hin hro hB
  go_enter Tryz.func85, Tryz.ntmps85
  go_upto_region 1 with (fail)
  rw [← hW]
  have HW := Hid.intro_ hW
  clear hW
  go_wp2_with fail
  go_quiet (fail)
  obtain ⟨W1, k1, hW1⟩ : ∃ W1, Keep Nil W W1 ∧ W1 = W.drewN nq := ⟨_, (Keep.refl Nil W).drewN _, rfl⟩
  rw [← hW1]
  have d0 := cell_keep c0 k1 (fun h => h)
  have HN1 := Hid.intro_ (HNX.out W1 k1)
  have K1 := Hid.intro_ k1
  clear c10 c9 c5 c4 c0 hW1 k1 HNX hbW
  go_wp2_with fail
  refine HN1.out.mono ?_
  rintro e w2 ⟨rfl, j, q', x', hj1, hj, hv', hto⟩
  -- the world where the rest begins, and the cell of the result
  have hb0 : Blk w2 w.heap.size 46 #[.int .u64 0, .int .u64 0, .int .u64 0] := by
    obtain ⟨G1, h1, s1⟩ := hto
    have hbW : Blk W w.heap.size 46 #[.int .u64 0, .int .u64 0, .int .u64 0] := by rw [HW.out]; exact Blk.new w _ _
    exact (hbW.keep K1.out (fun h => h)).keep s1.keep (fun hg => Nat.lt_irrefl _ (HH.out.lt _ hg))
  have hfin : Hid (∀ X y', Keep (fun z => z = w.heap.size ∨ z = cb) w2 X → Blk X cb 195 (cuCells b y') → CurTo c cb b G { s with D := s.D.readsN j } x' y' w X) := Hid.intro_ (fun X y' kX hbX => by
    obtain ⟨G1, h1, s1⟩ := hto
    have s0 := (Stp.of_nil (kW.then_ K1.out) G).trans s1
    have hGcb : G cb := by
      obtain ⟨G0', hG, _, _⟩ := HH.out.out
      rw [hG]
      exact .inr rfl
    have h9 : w.heap.size < W.heap.size := by rw [HW.out]; simp
    have h8 := K1.out.size
    have off1 : Off c.E G1 w.heap.size := (Off.new HH.out.env HH.out.lt (Nat.le_refl _)).step (w := W1) (by omega) s1
    obtain ⟨G0, rfl, hw, nb⟩ := h1.out
    refine ⟨_, ⟨⟨G0, rfl, hw.keep kX (fun z hz => ?_), nb⟩, hbX⟩, ?_⟩
    · rcases hz with e | e
      · rw [e]; exact ⟨fun hg => off1.1 (.inl hg), off1.2⟩
      · rw [e]; exact nb
    · refine ⟨s0.keep.trans kX (fun z hz e => ?_), s0.grow⟩
      rcases e with e | e
      · omega
      · rw [e]; exact hGcb)
  have hb1 : Blk w2 cb 195 (cuCells b y) := by
    obtain ⟨G1, h1, s1⟩ := hto
    exact h1.blk
  have HB0 := Hid.intro_ hb0
  have HB1 := Hid.intro_ hb1
  have HV := Hid.intro_ hv'
  clear hto hv' kW
  obtain ⟨W2, hW2⟩ : ∃ W2, W2 = w2.alloc (.cells #[.int .u64 r.a, .int .u64 r.b, .int .u64 r.c, .int .u64 r.d] 111) := ⟨_, rfl⟩
  have kW2 : Keep Nil w2 W2 := by rw [hW2]; exact (Keep.refl Nil w2).alloc _
  have bR : Blk W2 w2.heap.size 111 #[.int .u64 r.a, .int .u64 r.b, .int .u64 r.c, .int .u64 r.d] := by rw [hW2]; exact Blk.new w2 _ _
  have v2 : W2.cell? ⟨cb, 2, none⟩ = some (.int .i64 y.vars) := (hb1.keep kW2 (fun h => h)).at_ 2
  have r0 : W2.cell? ⟨w2.heap.size, 0, none⟩ = some (.int .u64 r.a) := bR.at_ 0
  have r1 : W2.cell? ⟨w2.heap.size, 1, none⟩ = some (.int .u64 r.b) := bR.at_ 1
  have r2 : W2.cell? ⟨w2.heap.size, 2, none⟩ = some (.int .u64 r.c) := bR.at_ 2
  have r3 : W2.cell? ⟨w2.heap.size, 3, none⟩ = some (.int .u64 r.d) := bR.at_ 3
  have KW2 := Hid.intro_ kW2
  obtain ⟨ok, hok⟩ : ∃ ok, ok = isN r.a r.b r.c r.d y.vars := ⟨_, rfl⟩
  rw [← hok] at HNO
  have HOK := Hid.intro_ hok
  clear hb0 hb1 kW2 bR hok
  have lt0 := HB0.out.lt
  have lt1 := HB1.out.lt
  have hne : ¬ cb = w.heap.size := by omega
  have hne2 : ¬ w.heap.size = cb := by omega
  have hW2s := Hid.intro_ (show W2.heap.size = w2.heap.size + 1 by rw [hW2]; simp)
  have hbad : Hid (∀ V, Keep Nil w2 V → ∀ X, X = (((V.setCell ⟨cb, 9, none⟩ (.int .i64 72)).setCell ⟨w.heap.size, 0, none⟩ (.int .u64 0)).setCell ⟨w.heap.size, 1, none⟩ (.int .u64 0)).setCell ⟨w.heap.size, 2, none⟩ (.int .u64 0) →
      X.cell? ⟨w.heap.size, 0, none⟩ = some (.int .u64 0) ∧ X.cell? ⟨w.heap.size, 1, none⟩ = some (.int .u64 0) ∧ X.cell? ⟨w.heap.size, 2, none⟩ = some (.int .u64 0) ∧ CurTo c cb b G { s with D := s.D.readsN j } x' { y with dead := 72 } w X) := Hid.intro_ (fun V kV X hX => by
    have k1 := (kV.mono (G := fun z => z = w.heap.size ∨ z = cb) (fun _ _ h => h.elim)).setCell (p := ⟨cb, 9, none⟩) (fun _ => .inr rfl) (.int .i64 72)
    have k2 := ((k1.setCell (p := ⟨w.heap.size, 0, none⟩) (fun _ => .inl rfl) (.int .u64 0)).setCell (p := ⟨w.heap.size, 1, none⟩) (fun _ => .inl rfl) (.int .u64 0)).setCell (p := ⟨w.heap.size, 2, none⟩) (fun _ => .inl rfl) (.int .u64 0)
    have b1 := (HB1.out.keep kV (fun h => h)).set_ 9 (.int .i64 72)
    have b2 := ((b1.far (p := ⟨w.heap.size, 0, none⟩) hne (.int .u64 0)).far (p := ⟨w.heap.size, 1, none⟩) hne (.int .u64 0)).far (p := ⟨w.heap.size, 2, none⟩) hne (.int .u64 0)
    have r1 := (HB0.out.keep kV (fun h => h)).far (p := ⟨cb, 9, none⟩) hne2 (.int .i64 72)
    have r2 := ((r1.set_ 0 (.int .u64 0)).set_ 1 (.int .u64 0)).set_ 2 (.int .u64 0)
    subst hX
    exact ⟨r2.at_ 0, r2.at_ 1, r2.at_ 2, hfin.out _ { y with dead := 72 } k2 b2⟩)
  have hgood : Hid (∀ V, Keep Nil w2 V → ∀ X, X = (((((((V.setCell ⟨cb, 6, none⟩ (.int .u64 r.a)).setCell ⟨cb, 7, none⟩ (.int .u64 r.b)).setCell ⟨cb, 8, none⟩ (.int .u64 r.c)).setCell ⟨cb, 5, none⟩ (.int .i64 ((y.given : Int) + 1))).setCell ⟨w.heap.size, 0, none⟩ (.int .u64 r.a)).setCell ⟨w.heap.size, 1, none⟩ (.int .u64 r.b)).setCell ⟨w.heap.size, 2, none⟩ (.int .u64 r.c)) →
      X.cell? ⟨w.heap.size, 0, none⟩ = some (.int .u64 r.a) ∧ X.cell? ⟨w.heap.size, 1, none⟩ = some (.int .u64 r.b) ∧ X.cell? ⟨w.heap.size, 2, none⟩ = some (.int .u64 r.c) ∧ CurTo c cb b G { s with D := s.D.readsN j } x' { y with last := r.n3, given := y.given + 1 } w X) := Hid.intro_ (fun V kV X hX => by
    have k1 := ((((kV.mono (G := fun z => z = w.heap.size ∨ z = cb) (fun _ _ h => h.elim)).setCell (p := ⟨cb, 6, none⟩) (fun _ => .inr rfl) (.int .u64 r.a)).setCell (p := ⟨cb, 7, none⟩) (fun _ => .inr rfl) (.int .u64 r.b)).setCell (p := ⟨cb, 8, none⟩) (fun _ => .inr rfl) (.int .u64 r.c)).setCell (p := ⟨cb, 5, none⟩) (fun _ => .inr rfl) (.int .i64 ((y.given : Int) + 1))
    have k2 := ((k1.setCell (p := ⟨w.heap.size, 0, none⟩) (fun _ => .inl rfl) (.int .u64 r.a)).setCell (p := ⟨w.heap.size, 1, none⟩) (fun _ => .inl rfl) (.int .u64 r.b)).setCell (p := ⟨w.heap.size, 2, none⟩) (fun _ => .inl rfl) (.int .u64 r.c)
    have b1 := ((((HB1.out.keep kV (fun h => h)).set_ 6 (.int .u64 r.a)).set_ 7 (.int .u64 r.b)).set_ 8 (.int .u64 r.c)).set_ 5 (.int .i64 ((y.given : Int) + 1))
    have b2 := ((b1.far (p := ⟨w.heap.size, 0, none⟩) hne (.int .u64 r.a)).far (p := ⟨w.heap.size, 1, none⟩) hne (.int .u64 r.b)).far (p := ⟨w.heap.size, 2, none⟩) hne (.int .u64 r.c)
    have r1 := ((((HB0.out.keep kV (fun h => h)).far (p := ⟨cb, 6, none⟩) hne2 (.int .u64 r.a)).far (p := ⟨cb, 7, none⟩) hne2 (.int .u64 r.b)).far (p := ⟨cb, 8, none⟩) hne2 (.int .u64 r.c)).far (p := ⟨cb, 5, none⟩) hne2 (.int .i64 ((y.given : Int) + 1))
    have r2 := ((r1.set_ 0 (.int .u64 r.a)).set_ 1 (.int .u64 r.b)).set_ 2 (.int .u64 r.c)
    subst hX
    exact ⟨r2.at_ 0, r2.at_ 1, r2.at_ 2, hfin.out _ { y with last := r.n3, given := y.given + 1 } k2 (by simpa [cuCells, R4.n3] using b2)⟩)
  go_upto_region 8 with (fail)
  rw [← hW2]
  clear hW2
  go_cut [8, 9] from 49 to 57 (fun v8 v9 wd => AskedN W2 r ok v8 v9 wd)
  case first =>
    have e0 := World.new_ne W2 _ r0
    have e2 := World.new_ne W2 _ v2
    simp only at e0 e2
    go_region_held3 (fun w' => w'.cell? ⟨cb, 2, none⟩ = some (.int .i64 y.vars) ∧ w'.cell? ⟨w2.heap.size, 0, none⟩ = some (.int .u64 r.a) ∧ w'.cell? ⟨w2.heap.size, 1, none⟩ = some (.int .u64 r.b) ∧ w'.cell? ⟨w2.heap.size, 2, none⟩ = some (.int .u64 r.c) ∧ w'.cell? ⟨w2.heap.size, 3, none⟩ = some (.int .u64 r.d))
      (first | exact ⟨v2, r0, r1, r2, r3⟩ | exact hS2.out | go_keep)
      (first
        | (go_at_call 157; refine (HNO.out _).mono ?_; rintro e w3 ⟨a1, a2, a3, rfl, ha, k2⟩
           have kz := (Keep.refl Nil W2).drew.then_ k2
           have x0' := cell_keep v2 kz (fun h => h)
           have p0' := cell_keep r0 kz (fun h => h)
           have p1' := cell_keep r1 kz (fun h => h)
           have p2' := cell_keep r2 kz (fun h => h)
           have p3' := cell_keep r3 kz (fun h => h)
           have e0' := World.new_ne w3 _ x0'
           have e2' := World.new_ne w3 _ p0'
           simp only at e0' e2'
           have hS2 := Hid.intro_ (And.intro x0' (And.intro p0' (And.intro p1' (And.intro p2' p3'))))
           have KZ := Hid.intro_ kz
           have HAA := Hid.intro_ ha
           have HLE := Hid.intro_ kz.size
           clear k2 kz ha)
        | (go_at_call 157; refine (HNO.out _).mono ?_; rintro e w3 ⟨a1, a2, a3, rfl, ha, k2⟩
           have kz := ((Keep.refl Nil W2).alloc (.cells #[.int .u64 0, .int .u64 0, .int .u64 0] 46)).drew.then_ k2
           have x0' := cell_keep v2 kz (fun h => h)
           have p0' := cell_keep r0 kz (fun h => h)
           have p1' := cell_keep r1 kz (fun h => h)
           have p2' := cell_keep r2 kz (fun h => h)
           have p3' := cell_keep r3 kz (fun h => h)
           have bz := (Blk.new W2 46 #[.int .u64 0, .int .u64 0, .int .u64 0]).drew.keep k2 (fun h => h)
           have z0 : w3.cell? ⟨W2.heap.size, 0, none⟩ = some (.int .u64 0) := bz.at_ 0
           have z1 : w3.cell? ⟨W2.heap.size, 1, none⟩ = some (.int .u64 0) := bz.at_ 1
           have z2 : w3.cell? ⟨W2.heap.size, 2, none⟩ = some (.int .u64 0) := bz.at_ 2
           have zf0 := bz.fr 0
           have zf1 := bz.fr 1
           have zf2 := bz.fr 2
           have hS2 := Hid.intro_ (And.intro x0' (And.intro p0' (And.intro p1' (And.intro p2' p3'))))
           have KZ := Hid.intro_ kz
           have BZ := Hid.intro_ bz
           have HAA := Hid.intro_ ha
           clear k2 kz bz ha))
    all_goals
      go_wp2_with fail
      go_meet
      first
        | exact ⟨w3.heap.size, a1, a2, a3, rfl, rfl, KZ.out.alloc _, Blk.new w3 _ _, HLE.out, HAA.out⟩
        | exact ⟨W2.heap.size, a1, a2, a3, rfl, rfl, ((KZ.out.setCell (p := ⟨W2.heap.size, 0, none⟩) (fun h => absurd h (Nat.lt_irrefl _)) _).setCell (p := ⟨W2.heap.size, 1, none⟩) (fun h => absurd h (Nat.lt_irrefl _)) _).setCell (p := ⟨W2.heap.size, 2, none⟩) (fun h => absurd h (Nat.lt_irrefl _)) _, ((BZ.out.set_ 0 _).set_ 1 _).set_ 2 _, Nat.le_refl _, HAA.out⟩
  case rest =>
    obtain ⟨T, a1, a2, a3, rfl, rfl, kT, bT, hT, ha⟩ := hcut
    have hTw : w2.heap.size < T := by have := hW2s.out; omega
    have hTn1 : ¬ T = cb := by omega
    have hTn2 : ¬ T = w.heap.size := by omega
    have hTn3 : ¬ cb = T := by omega
    have hTn4 : ¬ w.heap.size = T := by omega
    have KT := Hid.intro_ (KW2.out.then_ kT)
    have HAA := Hid.intro_ ha
    have BT := Hid.intro_ bT
    clear v2 r0 r1 r2 r3 kT bT ha hT hTw
    have hdead := deadly_shape
    cases ok
    · have HBF := Hid.intro_ (show B = false by rw [HBB.out]; unfold R4.isN; rw [← HOK.out]; rfl)
      have hbX := HB1.out.keep KT.out (fun h => h)
      have rX := HB0.out.keep KT.out (fun h => h)
      have tX := BT.out
      have x9 : wc.cell? ⟨cb, 9, none⟩ = some (.int .i64 0) := by rw [← HZ.out]; exact hbX.at_ 9
      have x5 : wc.cell? ⟨cb, 5, none⟩ = some (.int .i64 y.given) := hbX.at_ 5
      have x6 : wc.cell? ⟨cb, 6, none⟩ = some (.int .u64 y.last.self) := hbX.at_ 6
      have x7 : wc.cell? ⟨cb, 7, none⟩ = some (.int .u64 y.last.low) := hbX.at_ 7
      have x8 : wc.cell? ⟨cb, 8, none⟩ = some (.int .u64 y.last.high) := hbX.at_ 8
      have f5 := hbX.fr 5
      have f6 := hbX.fr 6
      have f7 := hbX.fr 7
      have f8 := hbX.fr 8
      have f9 := hbX.fr 9
      have z0 : wc.cell? ⟨w.heap.size, 0, none⟩ = some (.int .u64 0) := rX.at_ 0
      have z1 : wc.cell? ⟨w.heap.size, 1, none⟩ = some (.int .u64 0) := rX.at_ 1
      have z2 : wc.cell? ⟨w.heap.size, 2, none⟩ = some (.int .u64 0) := rX.at_ 2
      have g0 := rX.fr 0
      have g1 := rX.fr 1
      have g2 := rX.fr 2
      have t0 : wc.cell? ⟨T, 0, none⟩ = some (.int .u64 a1) := tX.at_ 0
      have t1 : wc.cell? ⟨T, 1, none⟩ = some (.int .u64 a2) := tX.at_ 1
      have t2 : wc.cell? ⟨T, 2, none⟩ = some (.int .u64 a3) := tX.at_ 2
      clear hbX rX tX
      go_wp2_with (go_at_call 159; refine (hdead _).mono ?_; rintro e w' ⟨rfl, hw⟩; obtain rfl := hw.symm)
      generalize hXX : (((wc.setCell ⟨cb, 9, none⟩ (.int .i64 72)).setCell ⟨w.heap.size, 0, none⟩ (.int .u64 0)).setCell ⟨w.heap.size, 1, none⟩ (.int .u64 0)).setCell ⟨w.heap.size, 2, none⟩ (.int .u64 0) = X9 at *
      obtain ⟨y0, y1, y2, hto⟩ := hbad.out wc KT.out X9 hXX.symm
      refine bodyPost_ret (v := .tuple #[.agg #[.int .u64 0, .int .u64 0, .int .u64 0], .bool false, .int .i64 72]) (by simp [results, Tryz.results85, go_sem, y0, y1, y2]) rfl ⟨j, q', x', hj1, hj, HV.out, .inr ⟨HBF.out, rfl, hto⟩⟩
    · obtain ⟨rfl, rfl, rfl⟩ := HAA.out rfl
      obtain ⟨F, hF⟩ : ∃ F, F = fitsB y.up y.root y.nodes y.given y.last r.n3 := ⟨_, rfl⟩
      have HBF := Hid.intro_ (show B = F by rw [HBB.out, hF]; unfold R4.isN; rw [← HOK.out]; rfl)
      have hft := fits_any b cb y r.n3 wc (HB1.out.keep KT.out (fun h => h)) (isN_in (by rw [← HOK.out] : isN r.a r.b r.c r.d y.vars = true)) HIN.out (by omega)
      rw [← hF] at hft
      unfold ndV R4.n3 at hft
      have HFT := Hid.intro_ hft
      have tX := BT.out
      have t0 : wc.cell? ⟨T, 0, none⟩ = some (.int .u64 r.a) := tX.at_ 0
      have t1 : wc.cell? ⟨T, 1, none⟩ = some (.int .u64 r.b) := tX.at_ 1
      have t2 : wc.cell? ⟨T, 2, none⟩ = some (.int .u64 r.c) := tX.at_ 2
      clear hft hF tX
      go_wp2_with fail
      refine HFT.out.mono ?_
      rintro e w5 ⟨rfl, k5⟩
      have K5 := Hid.intro_ (KT.out.then_ k5)
      have tX := BT.out.keep k5 (fun h => h)
      have hbX := HB1.out.keep K5.out (fun h => h)
      have rX := HB0.out.keep K5.out (fun h => h)
      clear t0 t1 t2 k5
      have x9 : w5.cell? ⟨cb, 9, none⟩ = some (.int .i64 0) := by rw [← HZ.out]; exact hbX.at_ 9
      have x5 : w5.cell? ⟨cb, 5, none⟩ = some (.int .i64 y.given) := hbX.at_ 5
      have x6 : w5.cell? ⟨cb, 6, none⟩ = some (.int .u64 y.last.self) := hbX.at_ 6
      have x7 : w5.cell? ⟨cb, 7, none⟩ = some (.int .u64 y.last.low) := hbX.at_ 7
      have x8 : w5.cell? ⟨cb, 8, none⟩ = some (.int .u64 y.last.high) := hbX.at_ 8
      have f5 := hbX.fr 5
      have f6 := hbX.fr 6
      have f7 := hbX.fr 7
      have f8 := hbX.fr 8
      have f9 := hbX.fr 9
      have z0 : w5.cell? ⟨w.heap.size, 0, none⟩ = some (.int .u64 0) := rX.at_ 0
      have z1 : w5.cell? ⟨w.heap.size, 1, none⟩ = some (.int .u64 0) := rX.at_ 1
      have z2 : w5.cell? ⟨w.heap.size, 2, none⟩ = some (.int .u64 0) := rX.at_ 2
      have g0 := rX.fr 0
      have g1 := rX.fr 1
      have g2 := rX.fr 2
      have t0 : w5.cell? ⟨T, 0, none⟩ = some (.int .u64 r.a) := tX.at_ 0
      have t1 : w5.cell? ⟨T, 1, none⟩ = some (.int .u64 r.b) := tX.at_ 1
      have t2 : w5.cell? ⟨T, 2, none⟩ = some (.int .u64 r.c) := tX.at_ 2
      have wg : wrap64 ((y.given : Int) + 1) = (y.given : Int) + 1 := wrap_low _ (by omega)
      clear hbX rX tX
      cases F
      · go_wp2_with (go_at_call 159; refine (hdead _).mono ?_; rintro e w' ⟨rfl, hw⟩; obtain rfl := hw.symm)
        generalize hXX : (((w5.setCell ⟨cb, 9, none⟩ (.int .i64 72)).setCell ⟨w.heap.size, 0, none⟩ (.int .u64 0)).setCell ⟨w.heap.size, 1, none⟩ (.int .u64 0)).setCell ⟨w.heap.size, 2, none⟩ (.int .u64 0) = X9 at *
        obtain ⟨y0, y1, y2, hto⟩ := hbad.out w5 K5.out X9 hXX.symm
        refine bodyPost_ret (v := .tuple #[.agg #[.int .u64 0, .int .u64 0, .int .u64 0], .bool false, .int .i64 72]) (by simp [results, Tryz.results85, go_sem, y0, y1, y2]) rfl ⟨j, q', x', hj1, hj, HV.out, .inr ⟨HBF.out, rfl, hto⟩⟩
      · go_wp2_with fail
        generalize hXX : (((((((w5.setCell ⟨cb, 6, none⟩ (.int .u64 r.a)).setCell ⟨cb, 7, none⟩ (.int .u64 r.b)).setCell ⟨cb, 8, none⟩ (.int .u64 r.c)).setCell ⟨cb, 5, none⟩ (.int .i64 ((y.given : Int) + 1))).setCell ⟨w.heap.size, 0, none⟩ (.int .u64 r.a)).setCell ⟨w.heap.size, 1, none⟩ (.int .u64 r.b)).setCell ⟨w.heap.size, 2, none⟩ (.int .u64 r.c)) = X9 at *
        obtain ⟨y0, y1, y2, hto⟩ := hgood.out w5 K5.out X9 hXX.symm
        refine bodyPost_ret (v := .tuple #[.agg #[.int .u64 r.a, .int .u64 r.b, .int .u64 r.c], .bool true, .int .i64 0]) (by simp [results, Tryz.results85, go_sem, y0, y1, y2]) rfl ⟨j, q', x', hj1, hj, HV.out, .inl ⟨HBF.out, rfl, hto⟩⟩
end
end Go.Proofs.YtadipinnbehhhaaGreatDoor
namespace Go.Proofs.YtadipinnbehhhaaGreatDoor
open Go.RowKit

section
variable {c : Cx} {w w' w2 : World} {cb b : Nat} {G G' : Nat → Prop} {s s' : RSt} {x x' : RdSt} {y y' : CuSt} {fs : List (ByteArray × AFile)} {name : ByteArray} {L rem : List R4} {q : Nat} {l : List N3} {bad up : Bool} {v r m : Nat}

theorem RdLive.oks {back : Bool} {kind : Nat} (h : RdLive c name kind L back x q rem) (hx : ∀ r ∈ x.list, r.Ok) (hL : ∀ r ∈ L, r.Ok) : ∀ r ∈ rem, r.Ok := by
  intro r hr
  rw [h.rm] at hr
  cases back with
  | true =>
    simp only [if_true] at hr
    rcases List.mem_append.1 hr with h1 | h1
    · exact hx r h1
    · exact hL r (List.mem_of_mem_take (List.mem_reverse.1 h1))
  | false =>
    simp only [Bool.false_eq_true, if_false] at hr
    rcases List.mem_append.1 hr with h1 | h1
    · exact hx r h1
    · exact hL r (List.mem_of_mem_drop h1)
theorem CurAt.oks (h : CurAt c w cb b G s x y) : ∀ r ∈ x.list, r.Ok := by
  obtain ⟨_, hr, _, _⟩ := h.via
  obtain ⟨_, _, _, _, _, _, hl⟩ := hr.out
  exact hl.oks
theorem LiveC.next (h : LiveC c name L up v r m cb b w G s q l bad) (ht : TapeOn c fs name 2 L) (hc : Calm s.D c.block fs) :
    Calls Tryz.prog 85 #[.pointer (some ⟨cb, 0, none⟩)] w fun e w' => e = .returned (.tuple #[headV l, .bool (!l.isEmpty), .int .i64 (headE bad l)]) ∧ NextC c name L up v r m cb b G s q l.tail bad w w' := by
  obtain ⟨x, y, rem, hcu, hv, hl, e1, e2, e3, e4⟩ := h.out
  rcases hl.rest with ⟨hd, hlen, hwk⟩ | ⟨hd, rfl, rfl⟩
  · by_cases hg : y.given = y.nodes
    · rw [hg, Nat.sub_self, List.take_zero] at hwk
      have hwk2 : (([], false) : List N3 × Bool) = (l, bad) := hwk
      injection hwk2 with hw1 hw2
      subst hw1 hw2
      refine (cnext_none 0 hcu hl.done (.inr ⟨hd, rfl, hg⟩)).mono fun e w1 ⟨he, hto⟩ => ⟨he, ?_⟩
      obtain ⟨G1, h1, s1⟩ := hto
      refine ⟨0, q, G1, by omega, rfl, ⟨x, y, rem, h1, hv, ⟨hl.done, hl.given, hl.nodes, hl.vars, hl.root, hl.inn, hl.okl, .inl ⟨hd, hlen, ?_⟩⟩, e1, e2, e3, e4⟩, s1⟩
      rw [hg, Nat.sub_self, List.take_zero]
      rfl
    · have hlt : y.given < y.nodes := by have := hl.given; omega
      cases hrem : rem with
      | nil => rw [hrem] at hlen; simp only [List.length_nil] at hlen; omega
      | cons r0 rest =>
        have hok := hv.oks hcu.oks ht.oks r0 (by rw [hrem]; exact List.mem_cons_self ..)
        obtain ⟨k, hk⟩ : ∃ k, y.nodes - y.given = k + 1 := ⟨y.nodes - y.given - 1, by omega⟩
        have hk2 : y.nodes - (y.given + 1) = k := by omega
        rw [hrem, hk, List.take_succ_cons] at hwk
        have hw2 : (if r0.isN y.vars && fitsB y.up y.root y.nodes y.given y.last r0.n3 then (r0.n3 :: (walkN y.up y.vars y.root y.nodes (rest.take k) (y.given + 1) r0.n3).1, (walkN y.up y.vars y.root y.nodes (rest.take k) (y.given + 1) r0.n3).2) else (([], true) : List N3 × Bool)) = (l, bad) := hwk
        obtain ⟨B, hB⟩ : ∃ B, B = (r0.isN y.vars && fitsB y.up y.root y.nodes y.given y.last r0.n3) := ⟨_, rfl⟩
        rw [← hB] at hw2
        refine (cnext_rec hcu hv ht hc hrem hl.done hd hlt hl.nodes hl.vars hl.inn hok B hB).mono fun e w1 hq => ?_
        obtain ⟨j, q', x', hj1, hj, hv', hcase⟩ := hq
        rw [hrem, hk] at hlen
        simp only [List.length_cons] at hlen
        rcases hcase with ⟨hBt, he, G1, h1, s1⟩ | ⟨hBf, he, G1, h1, s1⟩
        · rw [hBt, if_pos rfl] at hw2
          injection hw2 with hw3 hw4
          subst hw3 hw4
          refine ⟨he, j, q', G1, hj1, hj, ⟨x', _, rest, h1, hv', ⟨hl.done, by show y.given + 1 ≤ y.nodes; omega, hl.nodes, hl.vars, hl.root, fun _ => ?_, ⟨hok.a, hok.b, hok.c⟩, .inl ⟨hd, by show y.nodes - (y.given + 1) ≤ rest.length; omega, ?_⟩⟩, e1, e2, e3, e4⟩, s1⟩
          · rw [hBt] at hB
            have h9 : r0.isN y.vars = true := by
              have := hB.symm
              simp only [Bool.and_eq_true] at this
              exact this.1
            exact isN_in h9
          · show walkN y.up y.vars y.root y.nodes (rest.take (y.nodes - (y.given + 1))) (y.given + 1) r0.n3 = _
            rw [hk2]
            rfl
        · rw [hBf, if_neg (by simp)] at hw2
          injection hw2 with hw3 hw4
          subst hw3 hw4
          exact ⟨he, j, q', G1, hj1, hj, ⟨x', _, rest, h1, hv', ⟨hl.done, hl.given, hl.nodes, hl.vars, hl.root, hl.inn, hl.okl, .inr ⟨rfl, rfl, rfl⟩⟩, e1, e2, e3, e4⟩, s1⟩
  · refine (cnext_none 72 hcu hl.done (.inl ⟨hd, by decide⟩)).mono fun e w1 ⟨he, hto⟩ => ⟨he, ?_⟩
    obtain ⟨G1, h1, s1⟩ := hto
    exact ⟨0, q, G1, by omega, rfl, ⟨x, y, rem, h1, hv, ⟨hl.done, hl.given, hl.nodes, hl.vars, hl.root, hl.inn, hl.okl, .inr ⟨hd, rfl, rfl⟩⟩, e1, e2, e3, e4⟩, s1⟩
/-- A cursor that has been closed. -/
structure ShutC (c : Cx) (cb b : Nat) (w : World) (G : Nat → Prop) (s : RSt) : Prop where mk ::
  out : ∃ x y, CurAt c w cb b G s x y ∧ y.done = true
set_option maxRecDepth 100000 in
set_option maxHeartbeats 1000000 in
theorem LiveC.close (h : LiveC c name L up v r m cb b w G s q l bad) (hcl : s.S.closed = false) (hh : (c.K : Int) ≤ s.S.hand) :
    Calls Tryz.prog 84 #[.pointer (some ⟨cb, 0, none⟩)] w fun e w' => e = .returned (.int .i64 0) ∧ ∃ s' G', Went 0 (-(c.K : Int)) s s' ∧ ShutC c cb b w' G' s' ∧ Stp w G w' G' := by
  obtain ⟨x, y, rem, hcu, hv, hl, _⟩ := h.out
  have c0 : w.cell? ⟨cb, 0, none⟩ = some (.pointer (some ⟨b, 0, none⟩)) := hcu.blk.at_ 0
  have c10 : w.cell? ⟨cb, 10, none⟩ = some (.bool false) := by rw [← hl.done]; exact hcu.blk.at_ 10
  have f10 := hcu.blk.fr 10
  have hto := hcu.recell (y' := { y with done := true }) ((Keep.refl (fun z => z = cb) w).setCell (p := ⟨cb, 10, none⟩) (fun _ => rfl) (.bool true)) (hcu.blk.set_ 10 _)
  obtain ⟨G1, h1, s1⟩ := hto
  obtain ⟨G0, hr1, _, hvia⟩ := h1.via
  have hrc := rclose_any c _ b G0 s x hr1
  rw [hv.closes] at hrc
  have S1 := Hid.intro_ s1
  have HRC := Hid.intro_ hrc
  have HV := Hid.intro_ hvia
  have HG := Hid.intro_ (Went.give s hcl hh)
  clear h hcu hv hl s1 h1 hr1 hvia hrc hcl hh
  go_enter Tryz.func84, Tryz.ntmps84
  go_wp2_with fail
  refine HRC.out.mono ?_
  rintro e w2 ⟨rfl, ht⟩
  obtain ⟨G2, h2, s2⟩ := HV.out _ _ _ ht
  go_wp2_with fail
  go_ret
  exact ⟨rfl, _, G2, HG.out, ⟨_, _, h2, rfl⟩, S1.out.trans s2⟩
set_option maxHeartbeats 1000000 in
theorem ShutC.close (h : ShutC c cb b w G s) :
    Calls Tryz.prog 84 #[.pointer (some ⟨cb, 0, none⟩)] w fun e w' => e = .returned (.int .i64 6) ∧ w' = w := by
  obtain ⟨x, y, hcu, hd⟩ := h.out
  have c10 : w.cell? ⟨cb, 10, none⟩ = some (.bool true) := by rw [← hd]; exact hcu.blk.at_ 10
  clear h hcu hd
  go_enter Tryz.func84, Tryz.ntmps84
  go_wp2_with fail
  go_ret
  exact ⟨rfl, rfl⟩
set_option maxRecDepth 100000 in
set_option maxHeartbeats 1000000 in
theorem ShutC.next (h : ShutC c cb b w G s) :
    Calls Tryz.prog 85 #[.pointer (some ⟨cb, 0, none⟩)] w fun e w' => e = .returned (.tuple #[ndV 0 0 0, .bool false, .int .i64 6]) ∧ Keep Nil w w' := by
  obtain ⟨x, y, hcu, hd⟩ := h.out
  obtain ⟨W, hW⟩ : ∃ W, W = w.alloc (.cells #[.int .u64 0, .int .u64 0, .int .u64 0] 46) := ⟨_, rfl⟩
  have kW : Keep Nil w W := by rw [hW]; exact (Keep.refl Nil w).alloc _
  have bW : Blk W w.heap.size 46 #[.int .u64 0, .int .u64 0, .int .u64 0] := by rw [hW]; exact Blk.new w _ _
  have c10 : W.cell? ⟨cb, 10, none⟩ = some (.bool true) := by rw [← hd]; exact (hcu.blk.keep kW (fun h => h)).at_ 10
  have z0 : W.cell? ⟨w.heap.size, 0, none⟩ = some (.int .u64 0) := bW.at_ 0
  have z1 : W.cell? ⟨w.heap.size, 1, none⟩ = some (.int .u64 0) := bW.at_ 1
  have z2 : W.cell? ⟨w.heap.size, 2, none⟩ = some (.int .u64 0) := bW.at_ 2
  have g0 := bW.fr 0
  have g1 := bW.fr 1
  have g2 := bW.fr 2
  have HBW := Hid.intro_ bW
  have KW := Hid.intro_ kW
  unfold ndV
  clear h hcu hd kW bW
  go_enter Tryz.func85, Tryz.ntmps85
  go_upto_region 1 with (fail)
  rw [← hW]
  clear hW
  go_wp2_with fail
  generalize hX : (((W).setCell ⟨w.heap.size, 0, none⟩ (.int .u64 0)).setCell ⟨w.heap.size, 1, none⟩ (.int .u64 0)).setCell ⟨w.heap.size, 2, none⟩ (.int .u64 0) = X at *
  obtain ⟨y0, y1, y2, kX⟩ := set3_at (HBW.out) (.int .u64 0) (.int .u64 0) (.int .u64 0) X (.inl hX.symm)
  refine bodyPost_ret (v := .tuple #[.agg #[.int .u64 0, .int .u64 0, .int .u64 0], .bool false, .int .i64 6]) (by simp [results, Tryz.results85, go_sem, y0, y1, y2]) rfl ⟨rfl, KW.out.trans kX (fun z hz e => by have e : z = w.heap.size := e; omega)⟩
end
end Go.Proofs.YtadipinnbehhhaaGreatDoor
namespace Go.Proofs.YtadipinnbehhhaaGreatDoor
open Go.RowKit

theorem rd_at {w : World} {A : Option Addr} {xs : List Value} (h : Rd w A xs) (hne : xs ≠ []) : ∃ g o, A = some ⟨g, o, none⟩ := by
  obtain ⟨u, hu⟩ : ∃ u, xs[0]? = some u := ⟨_, List.getElem?_eq_getElem (List.length_pos_iff.2 hne)⟩
  obtain ⟨⟨g, o, sp⟩, rfl, c0⟩ := h _ _ hu
  have h9 : (Addr.add ⟨g, o, sp⟩ 0) = ⟨g, o, sp⟩ := by simp [Addr.add]
  rw [h9] at c0
  obtain rfl : sp = none := World.cell?_spot c0
  exact ⟨g, o, rfl⟩
theorem rc_ne {L : List R4} (h : L ≠ []) : rcCells L ≠ [] := fun e => by
  have := rcCells_len L
  rw [e] at this
  have h2 := List.length_pos_iff.2 h
  simp at this
  omega
theorem endL_some' {L : List R4} {v r m : Nat} (h : endL L = some (v, r, m)) : v ≤ 65536 ∧ m < 9223372036854775808 ∧ ∃ x rest, L.reverse = x :: rest ∧ x.b = v ∧ x.c = r ∧ x.d = m ∧ isE x.a x.b x.c x.d = true := by
  unfold endL at h
  cases hr : L.reverse with
  | nil => rw [hr] at h; cases h
  | cons x rest =>
    rw [hr] at h
    simp only at h
    split at h
    · rename_i he
      injection h with h
      injection h with h1 h2
      injection h2 with h2 h3
      subst h1 h2 h3
      have he2 := he
      unfold isE at he2
      simp only [Bool.and_eq_true, decide_eq_true_eq] at he2
      exact ⟨he2.1.1.2, he2.1.2, x, rest, rfl, rfl, rfl, rfl, he⟩
    · cases h
/-- A result of three cells, stored, one block more. -/
theorem res3a {w w2 : World} {t : TypeId} {x0 x1 x2 : Value} (hb : Blk w2 w.heap.size t #[x0, x1, x2]) (k : Keep Nil w w2) (u v x : Value) (o : Obj) (X : World) (hX : X = (((w2.setCell ⟨w.heap.size, 0, none⟩ u).setCell ⟨w.heap.size, 1, none⟩ v).setCell ⟨w.heap.size, 2, none⟩ x).alloc o) :
    X.cell? ⟨w.heap.size, 0, none⟩ = some u ∧ X.cell? ⟨w.heap.size, 1, none⟩ = some v ∧ X.cell? ⟨w.heap.size, 2, none⟩ = some x ∧ Keep Nil w X := by
  subst hX
  have hb3 := (((hb.set_ 0 u).set_ 1 v).set_ 2 x).alloc o
  have kp := ((((Keep.refl (fun z => z = w.heap.size) w2).setCell (p := ⟨w.heap.size, 0, none⟩) (fun _ => rfl) u).setCell (p := ⟨w.heap.size, 1, none⟩) (fun _ => rfl) v).setCell (p := ⟨w.heap.size, 2, none⟩) (fun _ => rfl) x).alloc o
  exact ⟨hb3.at_ 0, hb3.at_ 1, hb3.at_ 2, k.trans kp (fun b hb e => by have e : b = w.heap.size := e; omega)⟩
def openedL (L : List R4) : Option (Nat × Nat × Nat) := match endL L with
  | none => none
  | some (v, r, m) => if L.length = m + 1 then some (v, r, m) else none
set_option maxRecDepth 100000 in
set_option maxHeartbeats 2000000 in
theorem end_law (A : Option Addr) (cap : Nat) (L : List R4) (w : World) (hr : Rd w A (rcCells L)) (ho : ∀ r ∈ L, r.Ok) (hl : L.length ≤ 1099511627776) :
    Calls Tryz.prog 24 #[.slice A L.length cap] w fun e w' => e = .returned (.tuple #[ansV (endL L), .int .i64 (ansN (endL L))]) ∧ Keep Nil w w' := by
  obtain ⟨T, hT⟩ : ∃ T, T = endL L := ⟨_, rfl⟩
  rw [← hT]
  have HT := Hid.intro_ hT
  clear hT
  by_cases hL : L = []
  · subst hL
    have HT2 := Hid.intro_ (show T = none by rw [HT.out]; rfl)
    clear hr ho hl HT
    go_enter Tryz.func24, Tryz.ntmps24
    go_wp2_with fail
    refine bodyPost_ret (v := .tuple #[.agg #[.int .i64 0, .int .u64 0, .int .i64 0], .int .i64 72]) (by simp [results, Tryz.results24, go_sem]) rfl ⟨by rw [HT2.out]; rfl, (Keep.refl Nil w).alloc _⟩
  · obtain ⟨g, o, rfl⟩ := rd_at hr (rc_ne hL)
    obtain ⟨n, hn⟩ : ∃ n, L.length = n + 1 := ⟨L.length - 1, by have := List.length_pos_iff.2 hL; omega⟩
    obtain ⟨r, hrn⟩ : ∃ r, L[n]? = some r := ⟨_, List.getElem?_eq_getElem (by omega)⟩
    have hro := ho r (List.mem_of_getElem? hrn)
    obtain ⟨l0, hrev⟩ : ∃ l0, L.reverse = r :: l0 := by
      cases hv : L.reverse with
      | nil => exact absurd (by simpa using hv) hL
      | cons r0 l0 =>
        have h1 : L.reverse[0]? = some r0 := by rw [hv]; rfl
        rw [List.getElem?_reverse (by omega), hn, show n + 1 - 1 - 0 = n by omega, hrn] at h1
        injection h1 with h1
        exact ⟨l0, by rw [h1]⟩
    have HTE := Hid.intro_ (show T = toldE true r.a r.b r.c r.d by rw [HT.out]; unfold endL toldE; rw [hrev]; rfl)
    obtain ⟨p0, p1, p2, p3⟩ := rec_at hr hrn
    obtain ⟨W, hW⟩ : ∃ W, W = w.alloc (.cells #[.int .i64 0, .int .u64 0, .int .i64 0] 72) := ⟨_, rfl⟩
    have kW : Keep Nil w W := by rw [hW]; exact (Keep.refl Nil w).alloc _
    have bW : Blk W w.heap.size 72 #[.int .i64 0, .int .u64 0, .int .i64 0] := by rw [hW]; exact Blk.new w _ _
    have q0 := cell_keep p0 kW (fun h => h)
    have q1 := cell_keep p1 kW (fun h => h)
    have q2 := cell_keep p2 kW (fun h => h)
    have q3 := cell_keep p3 kW (fun h => h)
    have HIE := Hid.intro_ (isend_any r.a r.b r.c r.d hro.a hro.b hro.c hro.d W)
    have hw1 : wrap64 (n : Int) = (n : Int) := wrap_low _ (by omega)
    have hn0 : ((n : Int) + 1 == 0) = false := by simp; omega
    have hn1 : (n : Int) < (n : Int) + 1 := by omega
    rw [hn]
    have HBW := Hid.intro_ bW
    have HKW := Hid.intro_ kW
    clear HT hr ho hl hL hrn hro hrev p0 p1 p2 p3 kW bW hn
    unfold rcV at *
    go_enter Tryz.func24, Tryz.ntmps24
    go_upto_region 1 with (fail)
    rw [← hW]
    clear hW
    go_wp2_with fail
    refine HIE.out.mono ?_
    rintro e w2 ⟨rfl, k2⟩
    have hb2 := HBW.out.keep k2 (fun h => h)
    have z0 : w2.cell? ⟨w.heap.size, 0, none⟩ = some (.int .i64 0) := hb2.at_ 0
    have z1 : w2.cell? ⟨w.heap.size, 1, none⟩ = some (.int .u64 0) := hb2.at_ 1
    have z2 : w2.cell? ⟨w.heap.size, 2, none⟩ = some (.int .i64 0) := hb2.at_ 2
    have g0 := hb2.fr 0
    have g1 := hb2.fr 1
    have g2 := hb2.fr 2
    have hlt2 := hb2.lt
    have hne : ¬ w.heap.size = w2.heap.size := by omega
    have hne2 : ¬ w2.heap.size = w.heap.size := by omega
    have HB2 := Hid.intro_ hb2
    have HK2 := Hid.intro_ (HKW.out.then_ k2)
    clear hb2 k2 q0 q1 q2 q3
    have HT3 := HTE.out
    unfold toldE at HT3
    rw [Bool.true_and] at HT3
    cases hok : isE r.a r.b r.c r.d
    · rw [hok, if_neg (by simp)] at HT3
      have HT4 := Hid.intro_ HT3
      rw [if_neg (by simp)]
      unfold inV
      clear HT3 hok
      go_wp2_with fail
      generalize hX : (((w2.setCell ⟨w.heap.size, 0, none⟩ (.int .i64 0)).setCell ⟨w.heap.size, 1, none⟩ (.int .u64 0)).setCell ⟨w.heap.size, 2, none⟩ (.int .i64 0)).alloc (.cells #[.int .i64 0, .int .u64 0, .int .i64 0] 72) = X at *
      obtain ⟨y0, y1, y2, hk⟩ := res3a HB2.out HK2.out _ _ _ _ X hX.symm
      refine bodyPost_ret (v := .tuple #[.agg #[.int .i64 0, .int .u64 0, .int .i64 0], .int .i64 72]) (by simp [results, Tryz.results24, go_sem, y0, y1, y2]) rfl ⟨by rw [HT4.out]; rfl, hk⟩
    · rw [hok, if_pos rfl] at HT3
      have HT4 := Hid.intro_ HT3
      rw [if_pos rfl]
      unfold inV
      clear HT3 hok
      go_wp2_with fail
      generalize hX : (((w2.setCell ⟨w.heap.size, 0, none⟩ (.int .i64 r.b)).setCell ⟨w.heap.size, 1, none⟩ (.int .u64 r.c)).setCell ⟨w.heap.size, 2, none⟩ (.int .i64 r.d)).alloc (.cells #[.int .i64 r.b, .int .u64 r.c, .int .i64 r.d] 72) = X at *
      obtain ⟨y0, y1, y2, hk⟩ := res3a HB2.out HK2.out _ _ _ _ X hX.symm
      refine bodyPost_ret (v := .tuple #[.agg #[.int .i64 r.b, .int .u64 r.c, .int .i64 r.d], .int .i64 0]) (by simp [results, Tryz.results24, go_sem, y0, y1, y2]) rfl ⟨by rw [HT4.out]; rfl, hk⟩
set_option maxRecDepth 100000 in
set_option maxHeartbeats 2000000 in
theorem opened_law (A : Option Addr) (cap : Nat) (L : List R4) (w : World) (hr : Rd w A (rcCells L)) (ho : ∀ r ∈ L, r.Ok) (hl : L.length ≤ 1099511627776) :
    Calls Tryz.prog 25 #[.slice A L.length cap] w fun e w' => e = .returned (.tuple #[ansV (openedL L), .int .i64 (ansN (openedL L))]) ∧ Keep Nil w w' := by
  obtain ⟨T, hT⟩ : ∃ T, T = openedL L := ⟨_, rfl⟩
  rw [← hT]
  obtain ⟨W, hW⟩ : ∃ W, W = w.alloc (.cells #[.int .i64 0, .int .u64 0, .int .i64 0] 72) := ⟨_, rfl⟩
  have kW : Keep Nil w W := by rw [hW]; exact (Keep.refl Nil w).alloc _
  have bW : Blk W w.heap.size 72 #[.int .i64 0, .int .u64 0, .int .i64 0] := by rw [hW]; exact Blk.new w _ _
  have hend := end_law A cap L W (hr.keep kW (fun _ _ _ h => h)) ho hl
  have HBW := Hid.intro_ bW
  have HKW := Hid.intro_ kW
  cases hE : endL L with
  | none =>
    have HT4 := Hid.intro_ (show T = none by rw [hT]; unfold openedL; rw [hE])
    rw [hE] at hend
    have HEND := Hid.intro_ hend
    unfold ansV ansN at HEND
    clear hend hT hr ho hl kW bW hE
    go_enter Tryz.func25, Tryz.ntmps25
    go_upto_region 1 with (fail)
    rw [← hW]
    clear hW
    go_wp2_with fail
    refine HEND.out.mono ?_
    rintro e w2 ⟨rfl, k2⟩
    have hb2 := HBW.out.keep k2 (fun h => h)
    have z0 : w2.cell? ⟨w.heap.size, 0, none⟩ = some (.int .i64 0) := hb2.at_ 0
    have z1 : w2.cell? ⟨w.heap.size, 1, none⟩ = some (.int .u64 0) := hb2.at_ 1
    have z2 : w2.cell? ⟨w.heap.size, 2, none⟩ = some (.int .i64 0) := hb2.at_ 2
    have g0 := hb2.fr 0
    have g1 := hb2.fr 1
    have g2 := hb2.fr 2
    have hlt2 := hb2.lt
    have hne : ¬ w.heap.size = w2.heap.size := by omega
    have hne2 : ¬ w2.heap.size = w.heap.size := by omega
    have HB2 := Hid.intro_ hb2
    have HK2 := Hid.intro_ (HKW.out.then_ k2)
    clear hb2 k2
    go_wp2_with fail
    generalize hX : (((w2.setCell ⟨w.heap.size, 0, none⟩ (.int .i64 0)).setCell ⟨w.heap.size, 1, none⟩ (.int .u64 0)).setCell ⟨w.heap.size, 2, none⟩ (.int .i64 0)).alloc (.cells #[.int .i64 0, .int .u64 0, .int .i64 0] 72) = X at *
    obtain ⟨y0, y1, y2, hk⟩ := res3a HB2.out HK2.out _ _ _ _ X hX.symm
    refine bodyPost_ret (v := .tuple #[.agg #[.int .i64 0, .int .u64 0, .int .i64 0], .int .i64 72]) (by simp [results, Tryz.results25, go_sem, y0, y1, y2]) rfl ⟨by rw [HT4.out]; rfl, hk⟩
  | some p =>
    obtain ⟨v, r, m⟩ := p
    obtain ⟨hv, hm, x0, rest, hrev, _⟩ := endL_some' hE
    have hpos : 0 < L.length := by
      have := congrArg List.length hrev
      simp only [List.length_reverse, List.length_cons] at this
      omega
    have hw1 : wrap64 ((L.length : Int) - 1) = (L.length : Int) - 1 := wrap_low _ (by omega)
    rw [hE] at hend
    have HEND := Hid.intro_ hend
    unfold ansV ansN inV at HEND
    by_cases hn : L.length = m + 1
    · have HT4 := Hid.intro_ (show T = some (v, r, m) by rw [hT]; unfold openedL; rw [hE]; simp only [hn, if_true])
      have hq : ((m : Int) != (L.length : Int) - 1) = false := by
        have : (m : Int) = (L.length : Int) - 1 := by omega
        simpa using this
      clear hend hT hr ho kW bW hE hrev hpos hn
      go_enter Tryz.func25, Tryz.ntmps25
      go_upto_region 1 with (fail)
      rw [← hW]
      clear hW
      go_wp2_with fail
      refine HEND.out.mono ?_
      rintro e w2 ⟨rfl, k2⟩
      have hb2 := HBW.out.keep k2 (fun h => h)
      have z0 : w2.cell? ⟨w.heap.size, 0, none⟩ = some (.int .i64 0) := hb2.at_ 0
      have z1 : w2.cell? ⟨w.heap.size, 1, none⟩ = some (.int .u64 0) := hb2.at_ 1
      have z2 : w2.cell? ⟨w.heap.size, 2, none⟩ = some (.int .i64 0) := hb2.at_ 2
      have g0 := hb2.fr 0
      have g1 := hb2.fr 1
      have g2 := hb2.fr 2
      have hlt2 := hb2.lt
      have hne : ¬ w.heap.size = w2.heap.size := by omega
      have hne2 : ¬ w2.heap.size = w.heap.size := by omega
      have HB2 := Hid.intro_ hb2
      have HK2 := Hid.intro_ (HKW.out.then_ k2)
      clear hb2 k2
      go_wp2_with fail
      generalize hX : (((w2.setCell ⟨w.heap.size, 0, none⟩ (.int .i64 v)).setCell ⟨w.heap.size, 1, none⟩ (.int .u64 r)).setCell ⟨w.heap.size, 2, none⟩ (.int .i64 m)).alloc (.cells #[.int .i64 v, .int .u64 r, .int .i64 m] 72) = X at *
      obtain ⟨y0, y1, y2, hk⟩ := res3a HB2.out HK2.out _ _ _ _ X hX.symm
      refine bodyPost_ret (v := .tuple #[.agg #[.int .i64 v, .int .u64 r, .int .i64 m], .int .i64 0]) (by simp [results, Tryz.results25, go_sem, y0, y1, y2]) rfl ⟨by rw [HT4.out]; rfl, hk⟩
    · have HT4 := Hid.intro_ (show T = none by rw [hT]; unfold openedL; rw [hE]; simp only [hn, if_false])
      have hq : ((m : Int) != (L.length : Int) - 1) = true := by
        have : ¬ (m : Int) = (L.length : Int) - 1 := by omega
        simpa using this
      clear hend hT hr ho kW bW hE hrev hpos hn
      go_enter Tryz.func25, Tryz.ntmps25
      go_upto_region 1 with (fail)
      rw [← hW]
      clear hW
      go_wp2_with fail
      refine HEND.out.mono ?_
      rintro e w2 ⟨rfl, k2⟩
      have hb2 := HBW.out.keep k2 (fun h => h)
      have z0 : w2.cell? ⟨w.heap.size, 0, none⟩ = some (.int .i64 0) := hb2.at_ 0
      have z1 : w2.cell? ⟨w.heap.size, 1, none⟩ = some (.int .u64 0) := hb2.at_ 1
      have z2 : w2.cell? ⟨w.heap.size, 2, none⟩ = some (.int .i64 0) := hb2.at_ 2
      have g0 := hb2.fr 0
      have g1 := hb2.fr 1
      have g2 := hb2.fr 2
      have hlt2 := hb2.lt
      have hne : ¬ w.heap.size = w2.heap.size := by omega
      have hne2 : ¬ w2.heap.size = w.heap.size := by omega
      have HB2 := Hid.intro_ hb2
      have HK2 := Hid.intro_ (HKW.out.then_ k2)
      clear hb2 k2
      go_wp2_with fail
      generalize hX : (((w2.setCell ⟨w.heap.size, 0, none⟩ (.int .i64 0)).setCell ⟨w.heap.size, 1, none⟩ (.int .u64 0)).setCell ⟨w.heap.size, 2, none⟩ (.int .i64 0)).alloc (.cells #[.int .i64 v, .int .u64 r, .int .i64 m] 72) = X at *
      obtain ⟨y0, y1, y2, hk⟩ := res3a HB2.out HK2.out _ _ _ _ X hX.symm
      refine bodyPost_ret (v := .tuple #[.agg #[.int .i64 0, .int .u64 0, .int .i64 0], .int .i64 72]) (by simp [results, Tryz.results25, go_sem, y0, y1, y2]) rfl ⟨by rw [HT4.out]; rfl, hk⟩
end Go.Proofs.YtadipinnbehhhaaGreatDoor
namespace Go.Proofs.YtadipinnbehhhaaGreatDoor
open Go.RowKit

def n0 : N3 := ⟨0, 0, 0⟩
def ndCells (l : List N3) : List Value := l.flatMap fun n => [.int .u64 n.self, .int .u64 n.low, .int .u64 n.high]
theorem ndCells_app (a b : List N3) : ndCells (a ++ b) = ndCells a ++ ndCells b := by simp [ndCells]
theorem ndCells_at : ∀ (l : List N3) (k : Nat) (n : N3), l[k]? = some n → (ndCells l)[k * 3]? = some (.int .u64 n.self) ∧ (ndCells l)[k * 3 + 1]? = some (.int .u64 n.low) ∧ (ndCells l)[k * 3 + 2]? = some (.int .u64 n.high)
  | [], k, n, h => by simp at h
  | q :: l, 0, n, h => by
    simp only [List.getElem?_cons_zero, Option.some.injEq] at h
    subst h
    exact ⟨rfl, rfl, rfl⟩
  | q :: l, k + 1, n, h => by
    have ih := ndCells_at l k n (by simpa using h)
    have e : ndCells (q :: l) = .int .u64 q.self :: .int .u64 q.low :: .int .u64 q.high :: ndCells l := rfl
    rw [e, show (k + 1) * 3 = k * 3 + 1 + 1 + 1 by omega, show k * 3 + 1 + 1 + 1 + 1 = (k * 3 + 1) + 1 + 1 + 1 by omega, show k * 3 + 1 + 1 + 1 + 2 = (k * 3 + 2) + 1 + 1 + 1 by omega]
    simpa using ih
theorem info_node : (Tryz.prog.info? 46).map (fun i => (i.zero, i.size, i.bytes)) = some (some (.agg #[.int .u64 0, .int .u64 0, .int .u64 0]), 3, 24) := by kernel_rfl
/-- The last node, or none. -/
def lastN (P : List N3) : N3 := P.getLastD n0
/-- What has been taken when k records have been looked at. -/
structure WkInv (up : Bool) (v r m : Nat) (recs : List R4) (Q : List N3 × Bool) (k : Nat) (P : List N3) : Prop where
  len : P.length = k
  inn : ∀ n ∈ P, sIn n.self = true
  eq : Q = (P ++ (walkN up v r m (recs.drop k) k (lastN P)).1, (walkN up v r m (recs.drop k) k (lastN P)).2)
section
variable {up : Bool} {v r m : Nat} {recs : List R4} {Q : List N3 × Bool} {k : Nat} {P : List N3} {q : R4}
theorem WkInv.start : WkInv up v r m recs (walkN up v r m recs 0 n0) 0 [] := ⟨rfl, fun n h => by simp at h, rfl⟩
theorem lastN_snoc (P : List N3) (n : N3) : lastN (P ++ [n]) = n := by simp [lastN]
theorem drop_at (hq : recs[k]? = some q) : recs.drop k = q :: recs.drop (k + 1) := by
  obtain ⟨h, e⟩ := List.getElem?_eq_some_iff.1 hq
  rw [List.drop_eq_getElem_cons h, e]
theorem WkInv.good (h : WkInv up v r m recs Q k P) (hq : recs[k]? = some q) (hb : (q.isN v && fitsB up r m k (lastN P) q.n3) = true) : WkInv up v r m recs Q (k + 1) (P ++ [q.n3]) := by
  refine ⟨by simp [h.len], fun n hn => ?_, ?_⟩
  · rcases List.mem_append.1 hn with h1 | h1
    · exact h.inn n h1
    · rw [List.mem_singleton.1 h1]
      simp only [Bool.and_eq_true] at hb
      exact isN_in hb.1
  · rw [lastN_snoc, h.eq, drop_at hq]
    have e : walkN up v r m (q :: recs.drop (k + 1)) k (lastN P) = (q.n3 :: (walkN up v r m (recs.drop (k + 1)) (k + 1) q.n3).1, (walkN up v r m (recs.drop (k + 1)) (k + 1) q.n3).2) := by
      show (if q.isN v && fitsB up r m k (lastN P) q.n3 then _ else _) = _
      rw [if_pos hb]
    rw [e]
    simp
theorem WkInv.bad (h : WkInv up v r m recs Q k P) (hq : recs[k]? = some q) (hb : (q.isN v && fitsB up r m k (lastN P) q.n3) = false) : Q = (P, true) := by
  rw [h.eq, drop_at hq]
  have e : walkN up v r m (q :: recs.drop (k + 1)) k (lastN P) = ([], true) := by
    show (if q.isN v && fitsB up r m k (lastN P) q.n3 then _ else _) = _
    rw [if_neg (by simp [hb])]
  rw [e, List.append_nil]
theorem WkInv.ends (h : WkInv up v r m recs Q k P) (hk : recs.length ≤ k) : Q = (P, false) := by
  rw [h.eq, List.drop_eq_nil_of_le hk]
  show (P ++ [], false) = _
  rw [List.append_nil]
theorem lastN_at (h : P.length = k) (hk : 0 < k) : ∃ n, P[k - 1]? = some n ∧ lastN P = n ∧ n ∈ P := by
  obtain ⟨n, hn⟩ : ∃ n, P[k - 1]? = some n := ⟨_, List.getElem?_eq_getElem (by omega)⟩
  refine ⟨n, hn, ?_, List.mem_of_getElem? hn⟩
  unfold lastN
  rw [List.getLastD_eq_getLast?, List.getLast?_eq_getElem?, h, hn]
  rfl
end

/-- What stands when the reference has been asked whether that is a node. -/
def AskedR (W : World) (A1 A2 A3 : Nat) (ok : Bool) (v14 v15 : Value) (wd : World) : Prop := ∃ T, v14 = .pointer (some ⟨T, 0, none⟩) ∧ v15 = .bool ok ∧ Keep Nil W wd ∧ W.heap.size ≤ T ∧ Blk wd T 46 #[.int .u64 A1, .int .u64 A2, .int .u64 A3]
end Go.Proofs.YtadipinnbehhhaaGreatDoor
