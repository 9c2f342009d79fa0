/- The law's model: add. The law's step: the builder and its model answer the same. The law's step: Drop. NodesBuilds: the plain facts of its start: the names, the limits, what Begin answers. -/
import Derived.Test.YtadipinnbehhhaaGreatDoorBuildsRowAO
namespace Go.Proofs.YtadipinnbehhhaaGreatDoor
open Go.RowKit

/-- What stands when the reference has been asked whether that is a node. -/
def AskedNode (W : World) (A1 A2 A3 : Nat) (ok : Bool) (v14 v15 : Value) (wd : World) : Prop := ∃ T, v14 = .pointer (some ⟨T, 0, none⟩) ∧ v15 = .bool ok ∧ Keep Nil W wd ∧ Blk wd T 46 #[.int .u64 A1, .int .u64 A2, .int .u64 A3]

section
variable (w : World) (E : Nat → Addr) (G : Nat → Prop) (g base : Nat) (m : Mo) (k9 level : Int) (low high root : Nat)

set_option maxRecDepth 100000 in
set_option maxHeartbeats 4000000 in
theorem moadd_go (h : MoAt w E G g base m) (he : Envs E w G) (hlt : ∀ b, G b → b < w.heap.size) (hlast : m.last.Ok) (hd : m.done = false) (hl0 : 0 ≤ level) (hl1 : level < m.vars) (hvars : m.vars ≤ 65536) (hlo : low < 18446744073709551616) (hhi : high < 18446744073709551616) (hn : m.recs.length ≤ 1099511627776) :
    Calls Tryz.prog 68 #[.pointer (some ⟨g, 0, none⟩), .agg #[.int .i64 k9, .int .i64 level, .int .u64 low, .int .u64 high]] w (AddMo E G g base w (moAdd m level low high)) := by
  obtain ⟨v, hb, ho, hv⟩ := h.out
  have c0 : w.cell? ⟨g, 0, none⟩ = some (.int .i64 m.vars) := hb.at_ 0
  have c1 : w.cell? ⟨g, 1, none⟩ = some (.int .u64 m.last.self) := hb.at_ 1
  have c4 : w.cell? ⟨g, 4, none⟩ = some (.bool m.any) := hb.at_ 4
  have c5 : w.cell? ⟨g, 5, none⟩ = some (.bool m.done) := hb.at_ 5
  have lb := hb.lt
  rw [hd] at c5
  have HX := Hid.intro_ (show moAdd m level low high = match moId m level with | none => (0, 70, m) | some id => moAdd2 m level low high id by
    conv => lhs; unfold moAdd
    rw [if_neg (by simp [hd]), if_neg (by omega)]
    rfl)
  have hspl := fun W => rsplit_t m.last.self hlast.a W
  have hsl := sL_lt m.last.self
  have HO := Hid.intro_ ho
  have HB := Hid.intro_ hb
  have HV := Hid.intro_ hv
  clear hd hb ho hv
  go_enter Tryz.func68, Tryz.ntmps68
  go_wp2_with fail
  go_quiet (fail)
  obtain ⟨W, hW⟩ : ∃ W, W = (w.alloc (.cells #[.int .i64 k9, .int .i64 level, .int .u64 low, .int .u64 high] 52)).drewN nq := ⟨_, rfl⟩
  have kW : Keep Nil w W := by rw [hW]; exact ((Keep.refl Nil w).alloc _).drewN _
  have bW : Blk W w.heap.size 52 #[.int .i64 k9, .int .i64 level, .int .u64 low, .int .u64 high] := by rw [hW]; exact (Blk.new w _ _).drewN _
  rw [← hW]
  have x0 := cell_keep c0 kW (fun h => h)
  have x1 := cell_keep c1 kW (fun h => h)
  have x4 := cell_keep c4 kW (fun h => h)
  have p1 : W.cell? ⟨w.heap.size, 1, none⟩ = some (.int .i64 level) := bW.at_ 1
  have p2 : W.cell? ⟨w.heap.size, 2, none⟩ = some (.int .u64 low) := bW.at_ 2
  have p3 : W.cell? ⟨w.heap.size, 3, none⟩ = some (.int .u64 high) := bW.at_ 3
  have KW := Hid.intro_ kW
  clear hW c0 c1 c4 c5 kW bW
  go_upto_if 35 with (fail)
  go_cut [6] from 6 to 57 (fun v6 wc => ∃ I : Int, moId m level = some I ∧ v6 = .int .i64 I ∧ wc = W)
  case first =>
    cases hs : m.any
    · rw [hs] at x4
      have HI := Hid.intro_ (show moId m level = some 0 by unfold moId; rw [if_pos hs])
      clear hs
      go_wp2
      go_meet
      exact ⟨0, HI.out, rfl, rfl⟩
    · rw [hs] at x4
      have hsi := sI_lt m.last.self
      have hspl2 := hspl W
      clear hspl
      generalize hL : sL m.last.self = L at *
      generalize hI : sI m.last.self = I at *
      have HL := Hid.intro_ hL
      have HI := Hid.intro_ hI
      clear hL hI
      by_cases h1 : L < level
      · have HB := Hid.intro_ (show moId m level = none by unfold moId; rw [if_neg (by simp [hs]), HL.out, if_pos h1])
        clear hs
        go_wp2_with (go_at_call 82; refine hspl2.mono ?_; rintro e w' ⟨rfl, hw⟩; obtain rfl := hw.symm)
        go_ret2
        rw [HX.out, HB.out]
        exact ⟨rfl, MoTo.of_nil h KW.out⟩
      · by_cases h2 : level = L
        · have HB := Hid.intro_ (show moId m level = some (I + 1) by unfold moId; rw [if_neg (by simp [hs]), HL.out, if_neg h1, if_pos h2, HI.out])
          have q : (level == L) = true := by simpa using h2
          have h3 : level ≤ L := by omega
          clear hs h2 h1
          go_wp2_with (go_at_call 82; refine hspl2.mono ?_; rintro e w' ⟨rfl, hw⟩; obtain rfl := hw.symm)
          go_meet
          exact ⟨_, HB.out, rfl, rfl⟩
        · have HB := Hid.intro_ (show moId m level = some 0 by unfold moId; rw [if_neg (by simp [hs]), HL.out, if_neg h1, if_neg h2])
          have q : (level == L) = false := by simpa using h2
          have h3 : level ≤ L := by omega
          clear hs h2 h1
          go_wp2_with (go_at_call 82; refine hspl2.mono ?_; rintro e w' ⟨rfl, hw⟩; obtain rfl := hw.symm)
          go_meet
          exact ⟨0, HB.out, rfl, rfl⟩
  case rest =>
    obtain ⟨I, hI, rfl, hwc⟩ := hcut
    obtain rfl := hwc.symm
    have HX2 : Hid (moAdd m level low high = moAdd2 m level low high I) := by have := HX.out; rw [hI] at this; exact this
    have hI0 := moId_bd hI
    have hsi := sI_lt m.last.self
    have hin := rinner_any level I W
    have hnn : ∃ S : Nat, (inner level I).1 = S ∧ S < 18446744073709551616 := by
      refine ⟨(inner level I).1.toNat, ?_, ?_⟩ <;> (unfold inner; repeat' split) <;> simp only <;> omega
    have HX3 : Hid (moAdd2 m level low high I = if (!isN (inner level I).1.toNat low high 0 m.vars || (decide (0 < I) && !bhd low high m.last.low m.last.high)) = true then (0, 70, m) else ((inner level I).1, 0, { m with last := ⟨(inner level I).1.toNat, low, high⟩, any := true, recs := m.recs ++ [⟨(inner level I).1.toNat, low, high, 0⟩] })) := rfl
    clear HX hI hspl hsl
    generalize inner level I = q at *
    obtain ⟨q1, q2⟩ := q
    obtain ⟨S, hS, hSlt⟩ := hnn
    simp only at hS HX3 hin
    subst hS
    rw [Int.toNat_natCast] at HX3
    have HIN := fun W' => isNode_any S low high 0 m.vars hSlt hlo hhi W'
    unfold rcV at HIN
    obtain ⟨ok, hok⟩ : ∃ ok, ok = isN S low high 0 m.vars := ⟨_, rfl⟩
    rw [← hok] at HX3 HIN
    obtain ⟨A1, hA1⟩ : ∃ A1 : Nat, A1 = if ok = true then S else 0 := ⟨_, rfl⟩
    obtain ⟨A2, hA2⟩ : ∃ A2 : Nat, A2 = if ok = true then low else 0 := ⟨_, rfl⟩
    obtain ⟨A3, hA3⟩ : ∃ A3 : Nat, A3 = if ok = true then high else 0 := ⟨_, rfl⟩
    have hnd : (if ok = true then ndV S low high else ndV 0 0 0) = .agg #[.int .u64 A1, .int .u64 A2, .int .u64 A3] := by
      rw [hA1, hA2, hA3]
      cases ok <;> rfl
    rw [hnd] at HIN
    have HINH := Hid.intro_ HIN
    have HOK := Hid.intro_ hok
    have HA1 := Hid.intro_ hA1
    have HA2 := Hid.intro_ hA2
    have HA3 := Hid.intro_ hA3
    clear HIN hok hnd hA1 hA2 hA3
    go_wp2_with (go_at_call 141; refine hin.mono ?_; rintro e w' ⟨rfl, hw⟩; obtain rfl := hw.symm)
    go_cut [14, 15] from 14 to 78 (fun v14 v15 wd => AskedNode W A1 A2 A3 ok v14 v15 wd)
    case first =>
      have e0 := World.new_ne W _ x0
      have e2 := World.new_ne W _ p2
      have e3 := World.new_ne W _ p3
      simp only at e0 e2 e3
      go_region_held3 (fun w' => w'.cell? ⟨g, 0, none⟩ = some (.int .i64 m.vars) ∧ w'.cell? ⟨w.heap.size, 2, none⟩ = some (.int .u64 low) ∧ w'.cell? ⟨w.heap.size, 3, none⟩ = some (.int .u64 high))
        (first | exact ⟨x0, p2, p3⟩ | exact hS2.out | go_keep)
        (first
          | (go_at_call 81; refine (HINH.out _).mono ?_; rintro e w2 ⟨rfl, k2⟩
             have kz := (Keep.refl Nil W).drew.then_ k2
             have x0' := cell_keep x0 kz (fun h => h)
             have p2' := cell_keep p2 kz (fun h => h)
             have p3' := cell_keep p3 kz (fun h => h)
             have e0' := World.new_ne w2 _ x0'
             have e2' := World.new_ne w2 _ p2'
             have e3' := World.new_ne w2 _ p3'
             simp only at e0' e2' e3'
             have hS2 := Hid.intro_ (And.intro x0' (And.intro p2' p3'))
             have KZ := Hid.intro_ kz
             clear k2 kz)
          | (go_at_call 81; refine (HINH.out _).mono ?_; rintro e w2 ⟨rfl, k2⟩
             have kz := ((Keep.refl Nil W).alloc (.cells #[.int .u64 0, .int .u64 0, .int .u64 0] 46)).drew.then_ k2
             have x0' := cell_keep x0 kz (fun h => h)
             have p2' := cell_keep p2 kz (fun h => h)
             have p3' := cell_keep p3 kz (fun h => h)
             have bz := (Blk.new W 46 #[.int .u64 0, .int .u64 0, .int .u64 0]).drew.keep k2 (fun h => h)
             have z0 : w2.cell? ⟨W.heap.size, 0, none⟩ = some (.int .u64 0) := bz.at_ 0
             have z1 : w2.cell? ⟨W.heap.size, 1, none⟩ = some (.int .u64 0) := bz.at_ 1
             have z2 : w2.cell? ⟨W.heap.size, 2, none⟩ = some (.int .u64 0) := bz.at_ 2
             have zf0 := bz.fr 0
             have zf1 := bz.fr 1
             have zf2 := bz.fr 2
             have hS2 := Hid.intro_ (And.intro x0' (And.intro p2' p3'))
             have KZ := Hid.intro_ kz
             have BZ := Hid.intro_ bz
             clear k2 kz bz))
      all_goals
        go_wp2_with fail
        go_meet
        first
          | exact ⟨w2.heap.size, rfl, rfl, KZ.out.alloc _, Blk.new w2 _ _⟩
          | exact ⟨W.heap.size, rfl, rfl, ((KZ.out.setCell (p := ⟨W.heap.size, 0, none⟩) (fun h => absurd h (Nat.lt_irrefl _)) _).setCell (p := ⟨W.heap.size, 1, none⟩) (fun h => absurd h (Nat.lt_irrefl _)) _).setCell (p := ⟨W.heap.size, 2, none⟩) (fun h => absurd h (Nat.lt_irrefl _)) _, ((BZ.out.set_ 0 _).set_ 1 _).set_ 2 _⟩
    case rest =>
      obtain ⟨T, rfl, rfl, kT, bT⟩ := hcut
      obtain ⟨X, rfl⟩ : ∃ X : World, X = wc := ⟨_, rfl⟩
      have kwX := KW.out.then_ kT
      have bX := HB.out.keep kwX (fun h => h)
      have KWX := Hid.intro_ kwX
      have BT := Hid.intro_ bT
      have BX := Hid.intro_ bX
      clear x0 x1 x4 p1 p2 p3 kT kwX KW
      go_wp2_with fail
      go_cut [93] from 79 to 93 (fun v wd => v = .bool (!ok || (decide (0 < I) && !bhd low high m.last.low m.last.high)) ∧ Keep Nil X wd)
      case first =>
        have t0 : X.cell? ⟨T, 0, none⟩ = some (.int .u64 A1) := bT.at_ 0
        have t1 : X.cell? ⟨T, 1, none⟩ = some (.int .u64 A2) := bT.at_ 1
        have t2 : X.cell? ⟨T, 2, none⟩ = some (.int .u64 A3) := bT.at_ 2
        have y1 : X.cell? ⟨g, 1, none⟩ = some (.int .u64 m.last.self) := bX.at_ 1
        have y2 : X.cell? ⟨g, 2, none⟩ = some (.int .u64 m.last.low) := bX.at_ 2
        have y3 : X.cell? ⟨g, 3, none⟩ = some (.int .u64 m.last.high) := bX.at_ 3
        clear bT bX
        cases ok
        · go_quiet (fail)
          go_wp2
          go_meet
          exact ⟨rfl, (Keep.refl Nil _).drewN _⟩
        · have hA2 : A2 = low := by rw [HA2.out]; rfl
          have hA3 : A3 = high := by rw [HA3.out]; rfl
          have hbh := rbehind_any A1 low high m.last.self m.last.low m.last.high X.drew
          unfold ndV at hbh
          rw [hA2] at t1
          rw [hA3] at t2
          have HBH := Hid.intro_ hbh
          clear hA2 hA3 hbh
          by_cases hI1 : 0 < I
          · have e2 : decide (0 < I) = true := by simpa using hI1
            have HD := Hid.intro_ (show (!true || (decide (0 < I) && !bhd low high m.last.low m.last.high)) = !bhd low high m.last.low m.last.high by rw [e2]; simp)
            go_still_tail 11, (by kernel_rfl)
            change wpList _ _ _ _ _ X.drew
            go_wp2_with fail
            refine HBH.out.mono ?_
            rintro e w4 ⟨rfl, k4⟩
            go_wp2_with fail
            go_meet
            exact ⟨by rw [HD.out], ((Keep.refl Nil X).drew).then_ k4⟩
          · have e2 : decide (0 < I) = false := by simpa using hI1
            have HD := Hid.intro_ (show (!true || (decide (0 < I) && !bhd low high m.last.low m.last.high)) = false by rw [e2]; simp)
            go_quiet (fail)
            go_wp2
            go_meet
            exact ⟨by rw [HD.out], (Keep.refl Nil _).drewN _⟩
      case rest =>
        obtain ⟨rfl, kd⟩ := hcut
        obtain ⟨Y, rfl⟩ : ∃ Y : World, Y = wc := ⟨_, rfl⟩
        have kwY := KWX.out.then_ kd
        have bY := BX.out.keep kd (fun h => h)
        have tY := BT.out.keep kd (fun h => h)
        have oY := own_keep HO.out kwY (fun _ _ h => h)
        cases hb : (!ok || (decide (0 < I) && !bhd low high m.last.low m.last.high))
        · have HXX := Hid.intro_ (show moAdd m level low high = ((S : Int), (0 : Int), ({ m with last := ⟨S, low, high⟩, any := true, recs := m.recs ++ [⟨S, low, high, 0⟩] } : Mo)) by rw [HX2.out, HX3.out, if_neg (by rw [hb]; simp)])
          have hok : ok = true := by
            cases ok
            · exact absurd hb (by simp)
            · rfl
          have hA1 : A1 = S := by rw [HA1.out, if_pos hok]
          have hA2 : A2 = low := by rw [HA2.out, if_pos hok]
          have hA3 : A3 = high := by rw [HA3.out, if_pos hok]
          rw [hA1, hA2, hA3] at tY
          have t0 : Y.cell? ⟨T, 0, none⟩ = some (.int .u64 S) := tY.at_ 0
          have t1 : Y.cell? ⟨T, 1, none⟩ = some (.int .u64 low) := tY.at_ 1
          have t2 : Y.cell? ⟨T, 2, none⟩ = some (.int .u64 high) := tY.at_ 2
          have y1 : Y.cell? ⟨g, 1, none⟩ = some (.int .u64 m.last.self) := bY.at_ 1
          have y2 : Y.cell? ⟨g, 2, none⟩ = some (.int .u64 m.last.low) := bY.at_ 2
          have y3 : Y.cell? ⟨g, 3, none⟩ = some (.int .u64 m.last.high) := bY.at_ 3
          have y4 : Y.cell? ⟨g, 4, none⟩ = some (.bool m.any) := bY.at_ 4
          have f1 := bY.fr 1
          have f2 := bY.fr 2
          have f3 := bY.fr 3
          have f4 := bY.fr 4
          have hTg : T ≠ g := fun e => by rw [e] at tY; exact Blk.ne_ bY tY (by decide) rfl
          obtain ⟨Z, hZ⟩ : ∃ Z, Z = (((Y.setCell ⟨g, 1, none⟩ (.int .u64 S)).setCell ⟨g, 2, none⟩ (.int .u64 low)).setCell ⟨g, 3, none⟩ (.int .u64 high)).setCell ⟨g, 4, none⟩ (.bool true) := ⟨_, rfl⟩
          have kZ : Keep (fun z => z = g) Y Z := by
            rw [hZ]
            exact ((((Keep.refl (fun z => z = g) Y).setCell (p := ⟨g, 1, none⟩) (fun _ => rfl) _).setCell (p := ⟨g, 2, none⟩) (fun _ => rfl) _).setCell (p := ⟨g, 3, none⟩) (fun _ => rfl) _).setCell (p := ⟨g, 4, none⟩) (fun _ => rfl) _
          have bZ : Blk Z g 49 (moCells { m with last := ⟨S, low, high⟩, any := true } v) := by
            rw [hZ]
            exact (((bY.set_ 1 _).set_ 2 _).set_ 3 _).set_ 4 _
          have tZ : Blk Z T 46 #[.int .u64 S, .int .u64 low, .int .u64 high] := tY.keep kZ (fun e => hTg e)
          have hng : ∀ z, v.ownBlock = some z → z ≠ g := fun z hz e => by
            obtain ⟨cur, hc⟩ := own_blk oY hz
            rw [e] at hc
            exact Blk.ne_ bY hc (by decide) rfl
          have oZ := own_keep oY kZ hng
          have z6 : Z.cell? ⟨g, 6, none⟩ = some v := bZ.at_ 6
          have zT0 : Z.cell? ⟨T, 0, none⟩ = some (.int .u64 S) := tZ.at_ 0
          have zT1 : Z.cell? ⟨T, 1, none⟩ = some (.int .u64 low) := tZ.at_ 1
          have zT2 : Z.cell? ⟨T, 2, none⟩ = some (.int .u64 high) := tZ.at_ 2
          have hvo : v.oneCell' = true := by rcases oZ.2 with ⟨e, _⟩ | ⟨_, _, _, e, _⟩ <;> rw [e] <;> rfl
          have hrec := rec_any S low high Z.drew
          unfold ndV rcV at hrec
          have HREC := Hid.intro_ hrec
          have OZ := Hid.intro_ oZ
          have BZ := Hid.intro_ bZ
          have KZ := Hid.intro_ kZ
          have KY := Hid.intro_ kwY
          have NG := Hid.intro_ hng
          have lZ := bZ.lt
          have lT := tZ.lt
          obtain ⟨i1, hi1, hy0, hy1, hy2⟩ := info_parts info_rec
          obtain ⟨n, hnn⟩ : ∃ n, n = m.recs.length := ⟨_, rfl⟩
          rw [← hnn] at hn OZ
          have HN := Hid.intro_ hnn
          have hbg := h.base
          clear hb hok hA1 hA2 hA3 bX bT bY tY oY kwY kd bZ tZ oZ kZ hng hrec hnn HX2 HX3 HA1 HA2 HA3 HINH HOK
          go_wp2_with fail
          rw [← hZ]
          clear hZ t0 t1 t2 y1 y2 y3 y4 f1 f2 f3 f4
          go_region_law (first
            | (refine step_append_own rfl (.tmp 105) (.tmp 108) 47 rfl base 111 i1 (.agg #[.int .u64 0, .int .u64 0, .int .u64 0, .int .u64 0]) 4 32 Tryz.underlying47 hi1 hy0 hy1 hy2 rfl (by decide) v n (rcCells m.recs) (by simp [Act.eval]) (own_keep OZ.out (((Keep.refl Nil Z).drew.then_ k2).alloc _) (fun g _ h => h)) ⟨w2.heap.size, 0, none⟩ 1 1 [.int .u64 S, .int .u64 low, .int .u64 high, .int .u64 0] (by simp [Act.eval]) rfl (news_new rfl) (by simp [Value.oneCell']) (by unfold maxLen; omega) (by omega) (by have := k2.size; simp at *; omega) ?_; intro av cv w3 ho3 k3 hv3
               have b3 := ((BZ.out.keep ((Keep.refl Nil Z).drew.then_ k2) (fun h => h)).alloc (.cells #[.int .u64 S, .int .u64 low, .int .u64 high, .int .u64 0] 111)).keep k3 (fun e => NG.out g e rfl)
               have x3 : w3.cell? ⟨g, 6, none⟩ = some v := b3.at_ 6
               have y3' := b3.fr 6)
            | (go_simp; go_at_call 89; refine HREC.out.mono ?_; rintro e w2 ⟨rfl, k2⟩
               have z6' := cell_keep (w := Z.drew) z6 k2 (fun h => h)
               have lw2 : g < w2.heap.size := cell_lt z6'))
          all_goals
            go_wp2_with fail
            go_ret2
            rw [HXX.out]
            refine ⟨rfl, ?_⟩
            have kb : Keep (Mine w g) Y Z := KZ.out.mono (fun b _ hb => (.inl hb : Mine w g b))
            have kall := (((KY.out.mono (fun _ _ h => h.elim)).trans kb (fun _ _ h => h)).trans (((Keep.refl Nil Z).drew.then_ k2).alloc (.cells #[.int .u64 S, .int .u64 low, .int .u64 high, .int .u64 0] 111)) (fun _ _ h => h.elim))
            have hfin := MoAt.push (v := v) (r := ⟨S, low, high, 0⟩) (m := { m with last := ⟨S, low, high⟩, any := true }) he hlt h.off h.base kall (HB.out.at_ 6) ((BZ.out.keep ((Keep.refl Nil Z).drew.then_ k2) (fun h => h)).alloc _) (by rw [← HN.out]; exact own_keep OZ.out (((Keep.refl Nil Z).drew.then_ k2).alloc _) (fun g _ h => h)) HV.out (by rw [← HN.out]; exact ho3.out) k3 (by simpa using hv3.out)
            exact hfin
        · have HXX := Hid.intro_ (show moAdd m level low high = (0, 70, m) by rw [HX2.out, HX3.out, if_pos hb])
          clear hb bY tY oY bT bX
          go_wp2
          go_ret2
          rw [HXX.out]
          exact ⟨rfl, MoTo.of_nil h kwY⟩

/-- The model's add. -/
theorem moadd_any (h : MoAt w E G g base m) (he : Envs E w G) (hlt : ∀ b, G b → b < w.heap.size) (hlast : m.last.Ok) (hvars : m.vars ≤ 65536) (hlo : low < 18446744073709551616) (hhi : high < 18446744073709551616) (hn : m.recs.length ≤ 1099511627776) :
    Calls Tryz.prog 68 #[.pointer (some ⟨g, 0, none⟩), .agg #[.int .i64 k9, .int .i64 level, .int .u64 low, .int .u64 high]] w (AddMo E G g base w (moAdd m level low high)) := by
  cases hd : m.done
  · by_cases hl : 0 ≤ level ∧ level < m.vars
    · exact moadd_go w E G g base m k9 level low high h he hlt hlast hd hl.1 hl.2 hvars hlo hhi hn
    · exact moadd_early w E G g base m k9 level low high h (.inr ⟨hd, by omega⟩)
  · exact moadd_early w E G g base m k9 level low high h (.inl hd)
end
end Go.Proofs.YtadipinnbehhhaaGreatDoor
namespace Go.Proofs.YtadipinnbehhhaaGreatDoor
open Go.RowKit

/-- What stands between two steps: a builder, the model beside it, and that they tell the same. -/
structure Game (c : Cx) (L : Nat → Prop) (bb b g base : Nat) (fs : List (ByteArray × AFile)) (name : ByteArray) (n : Nat) (w : World) (m : Mo) : Prop where mk ::
  out : ∃ G s x y, BldAt c w bb b G s x y ∧ MoAt w c.E G g base m ∧ Sim c fs name s x y m ∧ ∀ z, G z → L z
  ok : MoOk m n
  base : ∀ z, base ≤ z → L z
def StepPost (c : Cx) (L : Nat → Prop) (bb b g base : Nat) (fs : List (ByteArray × AFile)) (name : ByteArray) (n : Nat) (w : World) (e : Ending) (w' : World) : Prop :=
  e = .returned (.bool true) ∧ ∃ m, Game c L bb b g base fs name (n + 1) w' m ∧ Keep L w w'

section
variable {c : Cx} {w : World} {G : Nat → Prop} {s : RSt} {x : WSt} {y : BSt} {m : Mo} {fs : List (ByteArray × AFile)} {name : ByteArray} {L : Nat → Prop} {bb b g base n lim : Nat}

theorem badd_sim (h : BldAt c w bb b G s x y) (hs : Sim c fs name s x y m) (hf : Frm c fs name lim) (hm : MoOk m n) (hn : n < lim) (level : Int) (low high : Nat) (hlo : low < 18446744073709551616) (hhi : high < 18446744073709551616) :
    Calls Tryz.prog 67 #[.pointer (some ⟨bb, 0, none⟩), .int .i64 level, .int .u64 low, .int .u64 high] w (AddPost c bb b G w (badd c s x y level low high)) := by
  have h1 := hf.lim
  have h2 := hm.len
  rcases hs with hs | hs
  · have h3 := hs.w.place hf.pos
    have h4 := hs.w.count
    by_cases hl : 0 ≤ level ∧ level < y.vars
    · exact badd_go c w bb b G s x y level low high h hs.done hs.dead hl.1 hl.2 (by rw [hs.vars]; exact hm.vars) hlo hhi hs.w.lt (by omega) (by omega)
    · exact badd_early c w bb b G s x y level low high h (.inr (.inr ⟨hs.done, hs.dead, by omega⟩))
  · exact badd_early c w bb b G s x y level low high h (.inl hs.done)
theorem bdone_sim (h : BldAt c w bb b G s x y) (hs : Sim c fs name s x y m) (hf : Frm c fs name lim) (hm : MoOk m n) (hn : n < lim) (root : Nat) (hroot : root < 18446744073709551616) :
    Calls Tryz.prog 65 #[.pointer (some ⟨bb, 0, none⟩), .int .u64 root] w (BPost c bb b G w (bdone c s x y root)) := by
  have h1 := hf.lim
  have h2 := hm.len
  rcases hs with hs | hs
  · have h3 := hs.w.place hf.pos
    have h4 := hs.w.count
    cases hr : badRoot y root
    · exact bdone_good c w bb b G s x y root h hs.done hs.dead hr hroot (by rw [hs.vars]; exact hm.vars) hs.w.lt (by omega) (by omega)
    · exact bdone_root c w bb b G s x y root h hs.done hs.dead hr hroot
  · exact bdone_shut c w bb b G s x y root h hs.done
/-- What is out of the purse, in the builder's words. -/
theorem used_bld (h : BldAt c w bb b G s x y) : Calls Tryz.prog 64 #[.pointer (some ⟨c.p, 0, none⟩)] w fun e w' => e = .returned (.int .i64 (s.S.hand + s.S.parts)) ∧ BldTo c bb b G s x y w w' := by
  obtain ⟨G0, h0, _, via⟩ := h.rm
  exact (used_rm h0).mono fun _ _ ⟨he, t⟩ => ⟨he, via _ _ t⟩
theorem k_bld (h : BldAt c w bb b G s x y) : Calls Tryz.prog 61 #[.pointer (some ⟨c.k, 0, none⟩)] w fun e w' => e = .returned (.int .i64 c.K) ∧ w' = w := by
  obtain ⟨G0, h0, _, _⟩ := h.rm
  exact room_k h0

/-- The model answers, beside a builder. -/
theorem Game.mk' {c : Cx} {L : Nat → Prop} {bb b g base n : Nat} {fs : List (ByteArray × AFile)} {name : ByteArray} {w0 w1 w2 w3 : World} {G G1 : Nat → Prop} {s1 : RSt} {x1 : WSt} {y1 : BSt} {m m' : Mo} (hL : ∀ z, G z → L z) (hbase : ∀ z, base ≤ z → L z) (hbs : base ≤ w0.heap.size)
    (s : Stp w0 G w1 G1) (_h1 : BldAt c w1 bb b G1 s1 x1 y1) (hm1 : MoAt w1 c.E G1 g base m) (k2 : Keep (Mine w1 g) w1 w2) (hm : MoAt w2 c.E G1 g base m') (ht : BldTo c bb b G1 s1 x1 y1 w2 w3) (hs : Sim c fs name s1 x1 y1 m') (hok : MoOk m' n) :
    Game c L bb b g base fs name n w3 m' ∧ Keep L w0 w3 := by
  obtain ⟨G3, h3, s3⟩ := ht
  have hG1 : ∀ z, G1 z → L z := fun z hz => (s.grow z hz).elim (hL z) (fun h => hbase z (Nat.le_trans hbs h))
  have hsz := s.keep.size
  have hsz2 := k2.size
  refine ⟨⟨⟨G3, s1, x1, y1, h3, hm.step s3, hs, fun z hz => (s3.grow z hz).elim (hG1 z) (fun h => hbase z (by omega))⟩, hok, hbase⟩, ?_⟩
  refine ((s.keep.mono (fun z _ hz => hL z hz)).trans (k2.mono (fun z _ hz => hbase z (hm1.mine hz).1.1)) (fun _ _ h => h)).trans (s3.keep.mono (fun z _ hz => hG1 z hz)) (fun _ _ h => h)

set_option maxRecDepth 100000 in
set_option maxHeartbeats 4000000 in
theorem step_add (hg : Game c L bb b g base fs name n w m) (hf : Frm c fs name lim) (hn : n < lim) (A : Option Addr) (nv cv : Nat) (kind level : Int) (low high : Nat) (hk1 : (kind == 1) = false) (hk2 : (kind == 2) = false) (hlo : low < 18446744073709551616) (hhi : high < 18446744073709551616) :
    Calls Tryz.prog 15 #[.agg #[.pointer (some ⟨c.d, 0, none⟩), .pointer (some ⟨c.p, 0, none⟩), .pointer (some ⟨c.k, 0, none⟩), .int .i64 c.block, .slice A nv cv], .pointer (some ⟨bb, 0, none⟩), .pointer (some ⟨g, 0, none⟩), .agg #[.int .i64 kind, .int .i64 level, .int .u64 low, .int .u64 high]] w (StepPost c L bb b g base fs name n w) := by
  obtain ⟨G, s, x, y, hb, hmo, hsim, hL⟩ := hg.out
  obtain ⟨W, hW⟩ : ∃ W, W = (w.alloc (.cells #[.pointer (some ⟨c.d, 0, none⟩), .pointer (some ⟨c.p, 0, none⟩), .pointer (some ⟨c.k, 0, none⟩), .int .i64 c.block, .slice A nv cv] 35)).alloc (.cells #[.int .i64 kind, .int .i64 level, .int .u64 low, .int .u64 high] 52) := ⟨_, rfl⟩
  have kW : Keep Nil w W := by rw [hW]; exact ((Keep.refl Nil w).alloc _).alloc _
  have bR : Blk W w.heap.size 35 #[.pointer (some ⟨c.d, 0, none⟩), .pointer (some ⟨c.p, 0, none⟩), .pointer (some ⟨c.k, 0, none⟩), .int .i64 c.block, .slice A nv cv] := by rw [hW]; exact (Blk.new w _ _).alloc _
  have bA : Blk W (w.heap.size + 1) 52 #[.int .i64 kind, .int .i64 level, .int .u64 low, .int .u64 high] := by rw [hW]; exact Blk.new_at _ _ _ (by simp)
  obtain ⟨q, hq⟩ : ∃ q, q = badd c s x y level low high := ⟨_, rfl⟩
  obtain ⟨r, hr⟩ : ∃ r, r = moAdd m level low high := ⟨_, rfl⟩
  have hbW := hb.nil kW
  have HA := badd_sim hbW hsim hf hg.ok hn level low high hlo hhi
  obtain ⟨e1, e2, hsim2, hok2⟩ := hsim.add (level := level) hf hg.ok hn hlo hhi
  rw [← hq, ← hr] at e1 e2 hsim2
  rw [← hr] at hok2
  rw [← hq] at HA
  have hlen : m.recs.length ≤ 1099511627776 := by have := hg.ok.len; have := hf.lim; omega
  have hma : ∀ G1 w1, BldAt c w1 bb b G1 q.s q.x q.y → MoAt w1 c.E G1 g base m → Calls Tryz.prog 68 #[.pointer (some ⟨g, 0, none⟩), .agg #[.int .i64 kind, .int .i64 level, .int .u64 low, .int .u64 high]] w1 (AddMo c.E G1 g base w1 r) := fun G1 w1 h1 hm1 => by
    rw [hr]
    exact moadd_any w1 c.E G1 g base m kind level low high hm1 h1.env h1.lt hg.ok.last hg.ok.vars hlo hhi hlen
  have hout := hsim2.out
  have nG0 : ¬ G w.heap.size := fun hz => Nat.lt_irrefl _ (hb.lt _ hz)
  have nG1 : ¬ G (w.heap.size + 1) := fun hz => by have := hb.lt _ hz; omega
  have hbs : base ≤ W.heap.size := by
    have h1 := hmo.base
    obtain ⟨v0, hv0, _⟩ := hmo.out
    have h2 := (hv0.keep kW (fun h => h)).lt
    omega
  obtain ⟨qp, qe, qs, qx, qy⟩ := q
  obtain ⟨r1, r2, m'⟩ := r
  simp only at e1 e2 hsim2 hma hok2 hout
  subst e1 e2
  have HA' := Hid.intro_ HA
  have HMA := Hid.intro_ hma
  have HSIM := Hid.intro_ hsim2
  have HOK := Hid.intro_ hok2
  have HOUT := Hid.intro_ hout
  have HL := Hid.intro_ hL
  have HMO := Hid.intro_ (hmo.nil kW)
  have HG := Hid.intro_ hg
  have HNM := Hid.intro_ (fun z (hz : Mine W g z) => (hmo.mine (hmo.mine_old (Stp.of_nil kW G) hz)).2)
  have BR := Hid.intro_ bR
  have BA := Hid.intro_ bA
  have KW := Hid.intro_ kW
  have hd0 : (qp != qp) = false := by simp
  have hd1 : (qe != qe) = false := by simp
  have ou : ((if m'.done = true then (0 : Int) else (c.K : Int)) == (if m'.done = true then (0 : Int) else (c.K : Int))) = true := by simp
  obtain ⟨uu, huu⟩ : ∃ uu : Int, uu = if m'.done = true then (0 : Int) else (c.K : Int) := ⟨_, rfl⟩
  rw [← huu] at HOUT
  have HU := Hid.intro_ huu
  clear HA hma hsim2 hok2 hout hL hmo hg kW bR bA hq hr hbW hb hsim huu ou
  go_enter Tryz.func15, Tryz.ntmps15
  go_wp2_with fail
  rw [← hW]
  refine HA'.out.mono ?_
  rintro e w1 ⟨rfl, G1, h1, s1⟩
  have b1 := BA.out.keep s1.keep nG1
  have a0 : w1.cell? ⟨w.heap.size + 1, 0, none⟩ = some (.int .i64 kind) := b1.at_ 0
  have a1 : w1.cell? ⟨w.heap.size + 1, 1, none⟩ = some (.int .i64 level) := b1.at_ 1
  have a2 : w1.cell? ⟨w.heap.size + 1, 2, none⟩ = some (.int .u64 low) := b1.at_ 2
  have a3 : w1.cell? ⟨w.heap.size + 1, 3, none⟩ = some (.int .u64 high) := b1.at_ 3
  have HMA1 := Hid.intro_ (HMA.out G1 w1 h1 (HMO.out.step s1))
  have H1 := Hid.intro_ h1
  have S1 := Hid.intro_ s1
  clear h1 s1 b1 hW
  go_wp2_with fail
  refine HMA1.out.mono ?_
  rintro e w2 ⟨rfl, hm2, k2⟩
  have hm2' : MoAt w2 c.E G1 g base m' := hm2
  have hnm : ∀ z, w.heap.size ≤ z → z < W.heap.size → ¬ Mine w1 g z := fun z h1 h2 hz => by
    have := HNM.out z (HMO.out.mine_old S1.out hz)
    omega
  have b2 := (BA.out.keep S1.out.keep nG1).keep k2 (hnm _ (by omega) BA.out.lt)
  have r2 := (BR.out.keep S1.out.keep nG0).keep k2 (hnm _ (Nat.le_refl _) BR.out.lt)
  have c1 : w2.cell? ⟨w.heap.size, 1, none⟩ = some (.pointer (some ⟨c.p, 0, none⟩)) := r2.at_ 1
  have c2 : w2.cell? ⟨w.heap.size, 2, none⟩ = some (.pointer (some ⟨c.k, 0, none⟩)) := r2.at_ 2
  have h2 := H1.out.keep k2 (fun z hz => ((HMO.out.step S1.out).mine hz).1.2)
  have m5 : w2.cell? ⟨g, 5, none⟩ = some (.bool m'.done) := by obtain ⟨_, hb2, _⟩ := hm2'.out; exact hb2.at_ 5
  have HK := Hid.intro_ (k_bld h2)
  have hus := used_bld h2
  rw [HOUT.out] at hus
  have HUS := Hid.intro_ hus
  have HM2 := Hid.intro_ hm2'
  have K2 := Hid.intro_ k2
  clear hm2 hm2' hnm b2 r2 h2 hus k2 a0 a1 a2 a3
  have hu0 : (uu == uu) = true := by simp
  cases hd : m'.done
  · have e3 : uu = c.K := by rw [HU.out, hd]; rfl
    rw [hd] at m5
    clear hd
    go_wp2_with (first
      | (go_at_call 61; refine HK.out.mono ?_; rintro e w' ⟨rfl, hw⟩; obtain rfl := hw.symm)
      | (go_at_call 64; refine HUS.out.mono ?_; rintro e w3 ⟨rfl, ht3⟩))
    go_ret
    obtain ⟨g1, k1⟩ := Game.mk' HL.out HG.out.base hbs S1.out H1.out (HMO.out.step S1.out) K2.out HM2.out ht3 HSIM.out HOK.out
    exact ⟨rfl, m', g1, (KW.out.mono fun _ _ h => h.elim).trans k1 (fun _ _ h => h)⟩
  · have e3 : uu = 0 := by rw [HU.out, hd]; rfl
    rw [hd] at m5
    clear hd
    go_wp2_with (first
      | (go_at_call 61; refine HK.out.mono ?_; rintro e w' ⟨rfl, hw⟩; obtain rfl := hw.symm)
      | (go_at_call 64; refine HUS.out.mono ?_; rintro e w3 ⟨rfl, ht3⟩))
    go_ret
    obtain ⟨g1, k1⟩ := Game.mk' HL.out HG.out.base hbs S1.out H1.out (HMO.out.step S1.out) K2.out HM2.out ht3 HSIM.out HOK.out
    exact ⟨rfl, m', g1, (KW.out.mono fun _ _ h => h.elim).trans k1 (fun _ _ h => h)⟩

set_option maxRecDepth 100000 in
set_option maxHeartbeats 4000000 in
theorem step_done (hg : Game c L bb b g base fs name n w m) (hf : Frm c fs name lim) (hn : n < lim) (A : Option Addr) (nv cv : Nat) (kind level : Int) (low high : Nat) (hk1 : (kind == 1) = true) (hlo : low < 18446744073709551616) :
    Calls Tryz.prog 15 #[.agg #[.pointer (some ⟨c.d, 0, none⟩), .pointer (some ⟨c.p, 0, none⟩), .pointer (some ⟨c.k, 0, none⟩), .int .i64 c.block, .slice A nv cv], .pointer (some ⟨bb, 0, none⟩), .pointer (some ⟨g, 0, none⟩), .agg #[.int .i64 kind, .int .i64 level, .int .u64 low, .int .u64 high]] w (StepPost c L bb b g base fs name n w) := by
  obtain ⟨G, s, x, y, hb, hmo, hsim, hL⟩ := hg.out
  obtain ⟨W, hW⟩ : ∃ W, W = (w.alloc (.cells #[.pointer (some ⟨c.d, 0, none⟩), .pointer (some ⟨c.p, 0, none⟩), .pointer (some ⟨c.k, 0, none⟩), .int .i64 c.block, .slice A nv cv] 35)).alloc (.cells #[.int .i64 kind, .int .i64 level, .int .u64 low, .int .u64 high] 52) := ⟨_, rfl⟩
  have kW : Keep Nil w W := by rw [hW]; exact ((Keep.refl Nil w).alloc _).alloc _
  have bR : Blk W w.heap.size 35 #[.pointer (some ⟨c.d, 0, none⟩), .pointer (some ⟨c.p, 0, none⟩), .pointer (some ⟨c.k, 0, none⟩), .int .i64 c.block, .slice A nv cv] := by rw [hW]; exact (Blk.new w _ _).alloc _
  have bA : Blk W (w.heap.size + 1) 52 #[.int .i64 kind, .int .i64 level, .int .u64 low, .int .u64 high] := by rw [hW]; exact Blk.new_at _ _ _ (by simp)
  obtain ⟨q, hq⟩ : ∃ q, q = bdone c s x y low := ⟨_, rfl⟩
  obtain ⟨r, hr⟩ : ∃ r, r = moDone m low := ⟨_, rfl⟩
  have hbW := hb.nil kW
  have HA := bdone_sim hbW hsim hf hg.ok hn low hlo
  obtain ⟨e1, hsim2, hok2⟩ := hsim.fin hf hg.ok hn hlo
  rw [← hq, ← hr] at e1 hsim2
  rw [← hr] at hok2
  rw [← hq] at HA
  have hlen : m.recs.length ≤ 1099511627776 := by have := hg.ok.len; have := hf.lim; omega
  have hma : ∀ G1 w1, BldAt c w1 bb b G1 q.2.1 q.2.2.1 q.2.2.2 → MoAt w1 c.E G1 g base m → Calls Tryz.prog 66 #[.pointer (some ⟨g, 0, none⟩), .int .u64 low] w1 (DoneMo c.E G1 g base w1 r) := fun G1 w1 h1 hm1 => by
    rw [hr]
    exact modone_any w1 c.E G1 g base m low hm1 h1.env h1.lt hg.ok.last hlo hg.ok.vars hlen
  have hout := hsim2.out
  have nG0 : ¬ G w.heap.size := fun hz => Nat.lt_irrefl _ (hb.lt _ hz)
  have nG1 : ¬ G (w.heap.size + 1) := fun hz => by have := hb.lt _ hz; omega
  have hbs : base ≤ W.heap.size := by
    have h1 := hmo.base
    obtain ⟨v0, hv0, _⟩ := hmo.out
    have h2 := (hv0.keep kW (fun h => h)).lt
    omega
  obtain ⟨qp, qs, qx, qy⟩ := q
  obtain ⟨r1, m'⟩ := r
  simp only at e1 hsim2 hma hok2 hout
  subst e1
  have HA' := Hid.intro_ HA
  have HMA := Hid.intro_ hma
  have HSIM := Hid.intro_ hsim2
  have HOK := Hid.intro_ hok2
  have HOUT := Hid.intro_ hout
  have HL := Hid.intro_ hL
  have HMO := Hid.intro_ (hmo.nil kW)
  have HG := Hid.intro_ hg
  have HNM := Hid.intro_ (fun z (hz : Mine W g z) => (hmo.mine (hmo.mine_old (Stp.of_nil kW G) hz)).2)
  have BR := Hid.intro_ bR
  have BA := Hid.intro_ bA
  have KW := Hid.intro_ kW
  have hd0 : (qp != qp) = false := by simp
  have ou : ((if m'.done = true then (0 : Int) else (c.K : Int)) == (if m'.done = true then (0 : Int) else (c.K : Int))) = true := by simp
  obtain ⟨uu, huu⟩ : ∃ uu : Int, uu = if m'.done = true then (0 : Int) else (c.K : Int) := ⟨_, rfl⟩
  rw [← huu] at HOUT
  have HU := Hid.intro_ huu
  clear HA hma hsim2 hok2 hout hL hmo hg kW bR bA hq hr hbW hb hsim huu ou
  go_enter Tryz.func15, Tryz.ntmps15
  go_wp2_with fail
  rw [← hW]
  refine HA'.out.mono ?_
  rintro e w1 ⟨rfl, G1, h1, s1⟩
  have b1 := BA.out.keep s1.keep nG1
  have a0 : w1.cell? ⟨w.heap.size + 1, 0, none⟩ = some (.int .i64 kind) := b1.at_ 0
  have a1 : w1.cell? ⟨w.heap.size + 1, 1, none⟩ = some (.int .i64 level) := b1.at_ 1
  have a2 : w1.cell? ⟨w.heap.size + 1, 2, none⟩ = some (.int .u64 low) := b1.at_ 2
  have a3 : w1.cell? ⟨w.heap.size + 1, 3, none⟩ = some (.int .u64 high) := b1.at_ 3
  have HMA1 := Hid.intro_ (HMA.out G1 w1 h1 (HMO.out.step s1))
  have H1 := Hid.intro_ h1
  have S1 := Hid.intro_ s1
  clear h1 s1 b1 hW
  go_wp2_with fail
  refine HMA1.out.mono ?_
  rintro e w2 ⟨rfl, hm2, k2⟩
  have hm2' : MoAt w2 c.E G1 g base m' := hm2
  have hnm : ∀ z, w.heap.size ≤ z → z < W.heap.size → ¬ Mine w1 g z := fun z h1 h2 hz => by
    have := HNM.out z (HMO.out.mine_old S1.out hz)
    omega
  have b2 := (BA.out.keep S1.out.keep nG1).keep k2 (hnm _ (by omega) BA.out.lt)
  have r2 := (BR.out.keep S1.out.keep nG0).keep k2 (hnm _ (Nat.le_refl _) BR.out.lt)
  have c1 : w2.cell? ⟨w.heap.size, 1, none⟩ = some (.pointer (some ⟨c.p, 0, none⟩)) := r2.at_ 1
  have c2 : w2.cell? ⟨w.heap.size, 2, none⟩ = some (.pointer (some ⟨c.k, 0, none⟩)) := r2.at_ 2
  have h2 := H1.out.keep k2 (fun z hz => ((HMO.out.step S1.out).mine hz).1.2)
  have m5 : w2.cell? ⟨g, 5, none⟩ = some (.bool m'.done) := by obtain ⟨_, hb2, _⟩ := hm2'.out; exact hb2.at_ 5
  have HK := Hid.intro_ (k_bld h2)
  have hus := used_bld h2
  rw [HOUT.out] at hus
  have HUS := Hid.intro_ hus
  have HM2 := Hid.intro_ hm2'
  have K2 := Hid.intro_ k2
  clear hm2 hm2' hnm b2 r2 h2 hus k2 a0 a1 a2 a3
  have hu0 : (uu == uu) = true := by simp
  cases hd : m'.done
  · have e3 : uu = c.K := by rw [HU.out, hd]; rfl
    rw [hd] at m5
    clear hd
    go_wp2_with (first
      | (go_at_call 61; refine HK.out.mono ?_; rintro e w' ⟨rfl, hw⟩; obtain rfl := hw.symm)
      | (go_at_call 64; refine HUS.out.mono ?_; rintro e w3 ⟨rfl, ht3⟩))
    go_ret
    obtain ⟨g1, k1⟩ := Game.mk' HL.out HG.out.base hbs S1.out H1.out (HMO.out.step S1.out) K2.out HM2.out ht3 HSIM.out HOK.out
    exact ⟨rfl, m', g1, (KW.out.mono fun _ _ h => h.elim).trans k1 (fun _ _ h => h)⟩
  · have e3 : uu = 0 := by rw [HU.out, hd]; rfl
    rw [hd] at m5
    clear hd
    go_wp2_with (first
      | (go_at_call 61; refine HK.out.mono ?_; rintro e w' ⟨rfl, hw⟩; obtain rfl := hw.symm)
      | (go_at_call 64; refine HUS.out.mono ?_; rintro e w3 ⟨rfl, ht3⟩))
    go_ret
    obtain ⟨g1, k1⟩ := Game.mk' HL.out HG.out.base hbs S1.out H1.out (HMO.out.step S1.out) K2.out HM2.out ht3 HSIM.out HOK.out
    exact ⟨rfl, m', g1, (KW.out.mono fun _ _ h => h.elim).trans k1 (fun _ _ h => h)⟩
end
end Go.Proofs.YtadipinnbehhhaaGreatDoor
namespace Go.Proofs.YtadipinnbehhhaaGreatDoor
open Go.RowKit

/-- Files that a room may be held against. -/
structure FsOk (fs : List (ByteArray × AFile)) : Prop where
  rises : rises (fs.map (·.1))
  short : ∀ f ∈ fs, f.1.size ≤ 32
  bytes : Bytes fs
  few : Few fs

section
variable {c : Cx} {w : World} {G : Nat → Prop} {s : RSt} {x : WSt} {y : BSt} {m : Mo} {fs : List (ByteArray × AFile)} {name : ByteArray} {L H : Nat → Prop} {bb b g base n lim : Nat}

/-- The room of a builder is as it was. -/
theorem kept_bld {A : Option Addr} {nv cv : Nat} (h : BldAt c w bb b G s x y) (hs : StAt w H (.agg #[.int .i64 c.block, .slice A nv cv]) c.block fs) (hsh : Shut c fs s) (ho : FsOk fs) :
    Calls Tryz.prog 14 #[.agg #[.pointer (some ⟨c.d, 0, none⟩), .pointer (some ⟨c.p, 0, none⟩), .pointer (some ⟨c.k, 0, none⟩), .int .i64 c.block, .slice A nv cv]] w fun e w' => e = .returned (.bool true) ∧ BldTo c bb b G s x y w w' := by
  obtain ⟨G0, h0, _, via⟩ := h.rm
  exact (kept_rm h0 hs hsh.calm (List.Perm.refl _) ho.rises ho.short ho.bytes ho.few (by rw [hsh.hand, hsh.parts]; rfl)).mono fun _ _ ⟨he, t⟩ => ⟨he, via _ _ t⟩
/-- The model, dropped, in memory. -/
theorem MoAt.dropped {E : Nat → Addr} (h : MoAt w E G g base m) (hd : m.done = false) : MoTo E G g base (moDrop m) w ((w.setCell ⟨g, 5, none⟩ (.bool true)).setCell ⟨g, 6, none⟩ (.slice none 0 0)) := by
  obtain ⟨v, hb, ho, hv⟩ := h.out
  have e : moDrop m = { m with done := true, recs := [] } := by unfold moDrop; rw [if_neg (by rw [hd]; simp)]
  rw [e]
  refine ⟨⟨⟨.slice none 0 0, (hb.set_ 5 _).set_ 6 _, World.ownsRow_nil _ _ _ _, fun z hz => by cases hz⟩, h.off, h.base⟩, ?_⟩
  exact ((Keep.refl (Mine w g) w).setCell (p := ⟨g, 5, none⟩) (fun _ => .inl rfl) _).setCell (p := ⟨g, 6, none⟩) (fun _ => .inl rfl) _

set_option maxRecDepth 100000 in
set_option maxHeartbeats 4000000 in
theorem step_drop (hg : Game c L bb b g base fs name n w m) (hf : Frm c fs name lim) (_hn : n < lim) (A : Option Addr) (nv cv : Nat) (kind level : Int) (low high : Nat) (hk1 : (kind == 1) = false) (hk2 : (kind == 2) = true) (hst : StAt w H (.agg #[.int .i64 c.block, .slice A nv cv]) c.block fs) (hH : ∀ b, H b → b < w.heap.size → ¬ L b) (hfo : FsOk fs) :
    Calls Tryz.prog 15 #[.agg #[.pointer (some ⟨c.d, 0, none⟩), .pointer (some ⟨c.p, 0, none⟩), .pointer (some ⟨c.k, 0, none⟩), .int .i64 c.block, .slice A nv cv], .pointer (some ⟨bb, 0, none⟩), .pointer (some ⟨g, 0, none⟩), .agg #[.int .i64 kind, .int .i64 level, .int .u64 low, .int .u64 high]] w (StepPost c L bb b g base fs name n w) := by
  obtain ⟨G, s, x, y, hb, hmo, hsim, hL⟩ := hg.out
  obtain ⟨W, hW⟩ : ∃ W, W = (w.alloc (.cells #[.pointer (some ⟨c.d, 0, none⟩), .pointer (some ⟨c.p, 0, none⟩), .pointer (some ⟨c.k, 0, none⟩), .int .i64 c.block, .slice A nv cv] 35)).alloc (.cells #[.int .i64 kind, .int .i64 level, .int .u64 low, .int .u64 high] 52) := ⟨_, rfl⟩
  have kW : Keep Nil w W := by rw [hW]; exact ((Keep.refl Nil w).alloc _).alloc _
  have bR : Blk W w.heap.size 35 #[.pointer (some ⟨c.d, 0, none⟩), .pointer (some ⟨c.p, 0, none⟩), .pointer (some ⟨c.k, 0, none⟩), .int .i64 c.block, .slice A nv cv] := by rw [hW]; exact (Blk.new w _ _).alloc _
  have hbW := hb.nil kW
  have HA := bdrop_any c W bb b G s x y hbW
  have nG0 : ¬ G w.heap.size := fun hz => Nat.lt_irrefl _ (hb.lt _ hz)
  have hbs : base ≤ W.heap.size := by
    have h1 := hmo.base
    obtain ⟨v0, hv0, _⟩ := hmo.out
    have h2 := (hv0.keep kW (fun h => h)).lt
    omega
  have okn : MoOk m (n + 1) := ⟨hg.ok.vars, hg.ok.oks, hg.ok.last, by have := hg.ok.len; omega⟩
  rcases hsim with hs | hs
  · obtain ⟨e1, hov, hsh, hok2⟩ := hs.drop hf hg.ok
    obtain ⟨q, hq⟩ : ∃ q, q = bdrop c s x y := ⟨_, rfl⟩
    rw [← hq] at HA e1 hov hsh
    obtain ⟨q1, qs, qx, qy⟩ := q
    simp only at e1 hov hsh
    subst e1
    have hmd := hs.mdone
    have HA' := Hid.intro_ HA
    have HOV := Hid.intro_ hov
    have HSH := Hid.intro_ hsh
    have HOK := Hid.intro_ hok2
    have HL := Hid.intro_ hL
    have HMO := Hid.intro_ (hmo.nil kW)
    have HNM := Hid.intro_ (fun z (hz : Mine W g z) => (hmo.mine (hmo.mine_old (Stp.of_nil kW G) hz)).2)
    have HG := Hid.intro_ hg
    have BR := Hid.intro_ bR
    have KW := Hid.intro_ kW
    have HST := Hid.intro_ (hst.nil kW)
    have HMD := Hid.intro_ hmd
    have hHW : Hid (∀ b, H b → b < W.heap.size → ¬ L b ∨ w.heap.size ≤ b) := fun b hb _ => by
      by_cases hl : b < w.heap.size
      · exact .inl (hH b hb hl)
      · exact .inr (by omega)
    have hst0 := Hid.intro_ hst
    have hHh := Hid.intro_ hH
    clear HA hov hsh hok2 hL hmo hg kW bR hq hbW hb hs hst hmd hH okn
    go_enter Tryz.func15, Tryz.ntmps15
    go_wp2_with fail
    rw [← hW]
    refine HA'.out.mono ?_
    rintro e w1 ⟨rfl, G1, h1, s1⟩
    have hm1 := HMO.out.step s1
    have m5 : w1.cell? ⟨g, 5, none⟩ = some (.bool m.done) := by obtain ⟨_, hb2, _⟩ := hm1.out; exact hb2.at_ 5
    rw [HMD.out] at m5
    have m6 : ∃ v, w1.cell? ⟨g, 6, none⟩ = some v := by obtain ⟨_, hb2, _⟩ := hm1.out; exact ⟨_, hb2.at_ 6⟩
    have f5 : w1.frozen? ⟨g, 5, none⟩ = false := by obtain ⟨_, hb2, _⟩ := hm1.out; exact hb2.fr 5
    have f6 : w1.frozen? ⟨g, 6, none⟩ = false := by obtain ⟨_, hb2, _⟩ := hm1.out; exact hb2.fr 6
    obtain ⟨u6, m6⟩ := m6
    have hmd := hm1.dropped HMD.out
    obtain ⟨Y, hY⟩ : ∃ Y, Y = (w1.setCell ⟨g, 5, none⟩ (.bool true)).setCell ⟨g, 6, none⟩ (.slice none 0 0) := ⟨_, rfl⟩
    rw [← hY] at hmd
    have hnm : ¬ Mine w1 g w.heap.size := fun hz => Nat.lt_irrefl _ (HNM.out _ (HMO.out.mine_old s1 hz))
    have r2 := (BR.out.keep s1.keep nG0).keep hmd.2 hnm
    have r1 := BR.out.keep s1.keep nG0
    have y0 : w1.cell? ⟨w.heap.size, 0, none⟩ = some (.pointer (some ⟨c.d, 0, none⟩)) := r1.at_ 0
    have y1 : w1.cell? ⟨w.heap.size, 1, none⟩ = some (.pointer (some ⟨c.p, 0, none⟩)) := r1.at_ 1
    have y2 : w1.cell? ⟨w.heap.size, 2, none⟩ = some (.pointer (some ⟨c.k, 0, none⟩)) := r1.at_ 2
    have y3 : w1.cell? ⟨w.heap.size, 3, none⟩ = some (.int .i64 c.block) := r1.at_ 3
    have y4 : w1.cell? ⟨w.heap.size, 4, none⟩ = some (.slice A nv cv) := r1.at_ 4
    have ng1 : ¬ g = w.heap.size := fun e => hnm (.inl e.symm)
    have ng2 : ¬ w.heap.size = g := fun e => hnm (.inl e)
    have hY1 := h1.keep hmd.2 (fun z hz => (hm1.mine hz).1.2)
    have kwY : Keep L w Y := ((KW.out.mono fun _ _ h => h.elim).trans (s1.keep.mono (fun z _ hz => HL.out z hz)) (fun _ _ h => h)).trans (hmd.2.mono (fun z _ hz => HG.out.base z (hm1.mine hz).1.1)) (fun _ _ h => h)
    have HKB := Hid.intro_ (kept_bld hY1 (hst0.out.keep kwY hHh.out) HSH.out hfo)
    have H1 := Hid.intro_ h1
    have S1 := Hid.intro_ s1
    have HMD2 := Hid.intro_ hmd
    have HM1 := Hid.intro_ hm1
    clear h1 s1 hW hmd hm1 r1 r2 hY1 kwY hnm
    go_wp2_with fail
    rw [← hY]
    refine HKB.out.mono ?_
    rintro e w3 ⟨rfl, ht3⟩
    go_wp2_with fail
    go_ret
    obtain ⟨g1, k1⟩ := Game.mk' HL.out HG.out.base hbs S1.out H1.out HM1.out HMD2.out.2 HMD2.out.1 ht3 (.inr HOV.out) HOK.out
    exact ⟨rfl, _, g1, (KW.out.mono fun _ _ h => h.elim).trans k1 (fun _ _ h => h)⟩
  · obtain ⟨e1, e2⟩ := hs.drop (x := x)
    rw [e1] at HA
    have hmd := hs.mdone
    have HA' := Hid.intro_ HA
    have HS := Hid.intro_ hs
    have HOK := Hid.intro_ okn
    have HL := Hid.intro_ hL
    have HMO := Hid.intro_ (hmo.nil kW)
    have HG := Hid.intro_ hg
    have KW := Hid.intro_ kW
    have HMD := Hid.intro_ hmd
    clear HA hL hmo hg kW bR hbW hb hs hst hmd hH okn e1 e2
    go_enter Tryz.func15, Tryz.ntmps15
    go_wp2_with fail
    rw [← hW]
    refine HA'.out.mono ?_
    rintro e w1 ⟨rfl, G1, h1, s1⟩
    have hm1 := HMO.out.step s1
    have m5 : w1.cell? ⟨g, 5, none⟩ = some (.bool m.done) := by obtain ⟨_, hb2, _⟩ := hm1.out; exact hb2.at_ 5
    rw [HMD.out] at m5
    have H1 := Hid.intro_ h1
    have S1 := Hid.intro_ s1
    have HM1 := Hid.intro_ hm1
    clear h1 s1 hW hm1
    go_wp2_with fail
    go_ret
    obtain ⟨g1, k1⟩ := Game.mk' HL.out HG.out.base hbs S1.out H1.out HM1.out (Keep.refl _ _) HM1.out (BldTo.refl H1.out) (.inr HS.out) HOK.out
    exact ⟨rfl, _, g1, (KW.out.mono fun _ _ h => h.elim).trans k1 (fun _ _ h => h)⟩

/-- A step, whatever it is. -/
theorem step_any (hg : Game c L bb b g base fs name n w m) (hf : Frm c fs name lim) (hn : n < lim) (A : Option Addr) (nv cv : Nat) (kind level : Int) (low high : Nat) (hlo : low < 18446744073709551616) (hhi : high < 18446744073709551616) (hst : StAt w H (.agg #[.int .i64 c.block, .slice A nv cv]) c.block fs) (hH : ∀ b, H b → b < w.heap.size → ¬ L b) (hfo : FsOk fs) :
    Calls Tryz.prog 15 #[.agg #[.pointer (some ⟨c.d, 0, none⟩), .pointer (some ⟨c.p, 0, none⟩), .pointer (some ⟨c.k, 0, none⟩), .int .i64 c.block, .slice A nv cv], .pointer (some ⟨bb, 0, none⟩), .pointer (some ⟨g, 0, none⟩), .agg #[.int .i64 kind, .int .i64 level, .int .u64 low, .int .u64 high]] w (StepPost c L bb b g base fs name n w) := by
  by_cases h1 : kind = 1
  · exact step_done hg hf hn A nv cv kind level low high (by simp [h1]) hlo
  by_cases h2 : kind = 2
  · exact step_drop hg hf hn A nv cv kind level low high (by simp [h1]) (by simp [h2]) hst hH hfo
  · exact step_add hg hf hn A nv cv kind level low high (by simp [h1]) (by simp [h2]) hlo hhi
end
end Go.Proofs.YtadipinnbehhhaaGreatDoor
namespace Go.Proofs.YtadipinnbehhhaaGreatDoor
open Go.RowKit

def nmOut : ByteArray := ⟨#[111, 117, 116]⟩
def nmZ : ByteArray := ⟨#[122]⟩
def nmBig : ByteArray := ⟨#[90]⟩
def nmOpen : ByteArray := ⟨#[111, 112, 101, 110]⟩

/-- What the law takes by its second number: the name, the purse's limit, what Begin must answer. -/
structure Pick where
  name : ByteArray
  limit : Int
  want : Int
def pick (K : Nat) (b vars : Int) : Pick :=
  let e (n : Int) : Int := if vars < 0 ∨ 65536 < vars then 1 else n
  if b = 1 then ⟨nmZ, K, e 13⟩ else if b = 2 then ⟨nmBig, K, e 11⟩ else if b = 3 then ⟨nmOut, K - 1, e 2⟩ else ⟨nmOut, K, e 0⟩

theorem strayRec_ok : strayRec.Ok := ⟨by decide, by decide, by decide, by decide⟩
theorem fit_K {a : Int} (ha : 0 ≤ a ∧ a ≤ 8) : fit (64 + 32 * a) = 1 + a := by
  unfold fit
  rw [if_neg (by omega)]
  omega
theorem within_bd (v : Int) : 0 ≤ within v 9 ∧ within v 9 ≤ 8 := by
  unfold within
  split <;> omega

section
variable {block : Nat}
theorem stray_names : (strayFs block).map (·.1) = [nmOpen, nmZ] := rfl
theorem out_new : nmOut ∉ (strayFs block).map (·.1) := by
  rw [stray_names]
  intro h
  simp only [List.mem_cons, List.not_mem_nil, or_false] at h
  rcases h with h | h
  · exact absurd h (by decide +kernel)
  · exact absurd h (by decide +kernel)
theorem stray_ok : ∀ f ∈ strayFs block, okName f.1 = true := by
  intro f hf
  simp only [strayFs, List.mem_cons, List.not_mem_nil, or_false] at hf
  rcases hf with rfl | rfl
  · show okName nmOpen = true; decide +kernel
  · show okName nmZ = true; decide +kernel
theorem stray_short : ∀ f ∈ strayFs block, f.1.size ≤ 32 := by
  intro f hf
  simp only [strayFs, List.mem_cons, List.not_mem_nil, or_false] at hf
  rcases hf with rfl | rfl
  · show nmOpen.size ≤ 32; decide +kernel
  · show nmZ.size ≤ 32; decide +kernel
theorem stray_rises : rises ((strayFs block).map (·.1)) := by
  rw [stray_names]
  unfold rises
  rw [List.pairwise_cons]
  refine ⟨fun b hb => ?_, List.pairwise_singleton _ _⟩
  rw [List.mem_singleton.1 hb]
  decide +kernel
theorem blocksB_size (kind : Nat) (l : List R4) {F : Nat} (hF : fit block = F) (h0 : 0 < F) (b : List Int) (hb : b ∈ blocksB kind l block) : b.length = block := by
  unfold fit at hF
  split at hF
  · omega
  unfold blocksB at hb
  obtain ⟨k, _, rfl⟩ := List.mem_map.1 hb
  refine encB_len ?_
  rw [chunk_len]
  omega
theorem blocksB_bytes (kind : Nat) (l : List R4) (hk : 1 ≤ kind ∧ kind ≤ 255) (b : List Int) (hb : b ∈ blocksB kind l block) : ∀ x ∈ b, 0 ≤ x ∧ x ≤ 255 := by
  unfold blocksB at hb
  obtain ⟨k, _, rfl⟩ := List.mem_map.1 hb
  exact encB_range (by omega)
theorem blocksB_len (kind : Nat) (l : List R4) : (blocksB kind l block).length = nblk (block / 32 - 1) l.length := by simp [blocksB]
theorem nblk_le (F n : Nat) (hF : 0 < F) : nblk F n ≤ n := by
  unfold nblk
  by_cases h : n = 0
  · rw [h, Nat.div_eq_of_lt (by omega)]; exact Nat.le_refl _
  · rw [Nat.div_le_iff_le_mul_add_pred hF]
    have : n * 1 ≤ F * n := by rw [Nat.mul_comm]; exact Nat.mul_le_mul_right _ hF
    omega
theorem stray_blocks {F : Nat} (hF : fit block = F) (h0 : 0 < F) : ∀ f ∈ strayFs block, ∀ b ∈ f.2.blocks, b.length = block := by
  intro f hf b hb
  simp only [strayFs, List.mem_cons, List.not_mem_nil, or_false] at hf
  rcases hf with rfl | rfl
  · simp at hb
  · exact blocksB_size 1 _ hF h0 b hb
theorem stray_bytes : Bytes (strayFs block) := by
  intro f hf b hb
  simp only [strayFs, List.mem_cons, List.not_mem_nil, or_false] at hf
  rcases hf with rfl | rfl
  · simp at hb
  · exact blocksB_bytes 1 _ (by omega) b hb
theorem stray_total {F : Nat} (hF : fit block = F) (h0 : 0 < F) : total (strayFs block) = 1 := by
  have hb : block / 32 - 1 = F := by
    unfold fit at hF
    split at hF
    · omega
    · omega
  unfold total strayFs
  simp only [List.map_cons, List.map_nil, List.length_nil, blocksB_len, hb]
  have : nblk F 1 = 1 := by have := nblk_more F 0 1 (by omega) (by omega); simpa using this
  simp [this]
theorem stray_few {F : Nat} (hF : fit block = F) (h0 : 0 < F) : Few (strayFs block) := by
  refine ⟨by simp [strayFs], fun f hf => ?_⟩
  have := blocks_total hf
  rw [stray_total hF h0] at this
  omega
end

theorem mount_calm (block : Int) (fs : List (ByteArray × AFile)) : Calm (mountD block 1099511627776 fs) block fs := ⟨rfl, rfl, rfl, rfl, rfl, rfl⟩

/-- What Begin answers over the law's room. -/
theorem begins_pick {s : RSt} {block K : Nat} (hc : Calm s.D block (strayFs block)) (b vars : Int) (hp : s.S = PSt.new (pick K b vars).limit) :
    ((begins s K (pick K b vars).name vars).1 = (pick K b vars).want ∨ ((pick K b vars).want = 0)) ∧
    (¬ (pick K b vars).want = 0 → (begins s K (pick K b vars).name vars).2.1 = s.D ∧ (begins s K (pick K b vars).name vars).2.2 = s.S) ∧
    ((pick K b vars).want = 0 → (pick K b vars).name = nmOut ∧ (pick K b vars).limit = K ∧ 0 ≤ vars ∧ vars ≤ 65536) := by
  by_cases hv : vars < 0 ∨ 65536 < vars
  · have e : ∀ name, begins s K name vars = (1, s.D, s.S) := fun name => if_pos hv
    have ew : (pick K b vars).want = 1 := by
      unfold pick
      simp only [if_pos hv]
      split
      · rfl
      split
      · rfl
      split <;> rfl
    rw [e, ew]
    exact ⟨.inl rfl, fun _ => ⟨rfl, rfl⟩, fun h => absurd (show (1 : Int) = 0 from h) (by decide)⟩
  have e : ∀ name, begins s K name vars = openW s.D s.S K name 2 := fun name => if_neg hv
  rw [e]
  by_cases h1 : b = 1
  · have ep : pick K b vars = ⟨nmZ, K, 13⟩ := by unfold pick; simp only [if_pos h1, if_neg hv]
    rw [ep]
    have hf : s.D.fresh nmZ = 13 := by
      have hz : okName nmZ = true := by decide +kernel
      have hp : ∃ f, fpos nmZ s.D.files = some f := by
        rw [hc.files]
        exact ⟨_, fpos_at (i := 1) (rises_nodup stray_rises) rfl⟩
      obtain ⟨⟨i, f⟩, hp⟩ := hp
      unfold DSt.fresh DSt.length DSt.perr DSt.ferr
      rw [hc.on, hz, hp]
      simp
    have : openW s.D s.S K nmZ 2 = (13, s.D, s.S) := by
      unfold openW
      rw [if_neg (by omega), if_neg (by rw [hc.on]; simp), if_pos (by rw [hf]; decide), hf]
    rw [this]
    exact ⟨.inl rfl, fun _ => ⟨rfl, rfl⟩, fun h => absurd (show (13 : Int) = 0 from h) (by decide)⟩
  by_cases h2 : b = 2
  · have ep : pick K b vars = ⟨nmBig, K, 11⟩ := by unfold pick; simp only [if_neg h1, if_pos h2, if_neg hv]
    rw [ep]
    have hf : s.D.fresh nmBig = 11 := by
      have hz : okName nmBig = false := by decide +kernel
      unfold DSt.fresh DSt.length DSt.perr DSt.ferr
      rw [hc.on, hz]
      simp [errNo]
    have : openW s.D s.S K nmBig 2 = (11, s.D, s.S) := by
      unfold openW
      rw [if_neg (by omega), if_neg (by rw [hc.on]; simp), if_pos (by rw [hf]; decide), hf]
    rw [this]
    exact ⟨.inl rfl, fun _ => ⟨rfl, rfl⟩, fun h => absurd (show (11 : Int) = 0 from h) (by decide)⟩
  have hout : okName nmOut = true := by decide +kernel
  have hno : nmOut ∉ (strayFs block).map (·.1) := out_new
  by_cases h3 : b = 3
  · have ep : pick K b vars = ⟨nmOut, K - 1, 2⟩ := by unfold pick; simp only [if_neg h1, if_neg h2, if_pos h3, if_neg hv]
    rw [ep] at hp ⊢
    have hfr : s.S.frees = (K : Int) - 1 := by rw [hp]; simp [PSt.frees, PSt.new]
    have : openW s.D s.S K nmOut 2 = (2, s.D, s.S) := by
      unfold openW
      rw [if_neg (by omega), if_neg (by rw [hc.on]; simp), if_neg (by rw [hc.fresh hout hno]; simp), if_pos (by rw [hfr]; omega)]
    rw [this]
    exact ⟨.inl rfl, fun _ => ⟨rfl, rfl⟩, fun h => absurd (show (2 : Int) = 0 from h) (by decide)⟩
  · have ep : pick K b vars = ⟨nmOut, K, 0⟩ := by unfold pick; simp only [if_neg h1, if_neg h2, if_neg h3, if_neg hv]
    rw [ep]
    exact ⟨.inr rfl, fun h => absurd rfl h, fun _ => ⟨rfl, rfl, by omega, by omega⟩⟩
/-- The frame of the law. -/
theorem law_frm {c : Cx} (hf : fit c.block = c.K) (h0 : 0 < c.K) {lim : Nat} (hl : lim ≤ 268435457) : Frm c (strayFs c.block) nmOut lim := {
  fit := hf
  pos := h0
  ok := by decide +kernel
  new := out_new
  room := by rw [stray_total hf h0]; omega
  lim := hl }
end Go.Proofs.YtadipinnbehhhaaGreatDoor
