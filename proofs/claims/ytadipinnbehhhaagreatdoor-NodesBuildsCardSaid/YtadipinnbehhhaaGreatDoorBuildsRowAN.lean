/- A builder: Add. The law's model of a builder: what it is in memory. A disk without troubles that has room: what its calls come to; a writer over it and the records that it was given. -/
import Derived.Test.YtadipinnbehhhaaGreatDoorBuildsRowAM
import Derived.Test.YtadipinnbehhhaaGreatDoorBuildsRowAL
namespace Go.Proofs.YtadipinnbehhhaaGreatDoor
open Go.RowKit

/-- The id of the next node; none: the level lies too deep. -/
def bid (y : BSt) (level : Int) : Option Int :=
  if y.some_ = false then some 0 else if sL y.last.self < level then none else if level = sL y.last.self then some (sI y.last.self + 1) else some 0

/-- Arcs that may not be. -/
def badArc (y : BSt) (level : Int) (low high : Nat) (id : Int) : Bool :=
  decide (low = high) || !uN low level y.vars || !uN high level y.vars || (decide (0 < id) && !bhd low high y.last.low y.last.high)

structure AddR where
  p : Int
  e : Int
  s : RSt
  x : WSt
  y : BSt

/-- What Add comes to, the id being known. -/
def badd2 (c : Cx) (s : RSt) (x : WSt) (y : BSt) (level : Int) (low high : Nat) (id : Int) : AddR :=
  if badArc y level low high id = true then ⟨0, 70, s, x, y⟩
  else if ¬ (inner level id).2 = 0 then ⟨0, (inner level id).2, s, x, y⟩
  else if ¬ (wput c s x ⟨(inner level id).1.toNat, low, high, 0⟩).1 = 0 then ⟨0, (wput c s x ⟨(inner level id).1.toNat, low, high, 0⟩).1, (wput c s x ⟨(inner level id).1.toNat, low, high, 0⟩).2.1, (wput c s x ⟨(inner level id).1.toNat, low, high, 0⟩).2.2, { y with dead := (wput c s x ⟨(inner level id).1.toNat, low, high, 0⟩).1 }⟩
  else ⟨(inner level id).1, 0, (wput c s x ⟨(inner level id).1.toNat, low, high, 0⟩).2.1, (wput c s x ⟨(inner level id).1.toNat, low, high, 0⟩).2.2, { y with last := ⟨(inner level id).1.toNat, low, high⟩, some_ := true }⟩
/-- What Add comes to. -/
def badd (c : Cx) (s : RSt) (x : WSt) (y : BSt) (level : Int) (low high : Nat) : AddR :=
  if y.done = true then ⟨0, 6, s, x, y⟩
  else if ¬ y.dead = 0 then ⟨0, y.dead, s, x, y⟩
  else if level < 0 ∨ (y.vars : Int) ≤ level then ⟨0, 3, s, x, y⟩
  else match bid y level with
    | none => ⟨0, 70, s, x, y⟩
    | some id => badd2 c s x y level low high id

/-- What stands of Add. -/
def AddPost (c : Cx) (bb b : Nat) (G : Nat → Prop) (w : World) (q : AddR) (e : Ending) (w' : World) : Prop := e = .returned (.tuple #[.int .u64 q.p, .int .i64 q.e]) ∧ BldTo c bb b G q.s q.x q.y w w'

theorem sI_lt (p : Nat) : 0 ≤ sI p ∧ sI p < 1099511627776 := by
  unfold sI
  split <;> omega

section
variable (c : Cx) (w : World) (bb b : Nat) (G : Nat → Prop) (s : RSt) (x : WSt) (y : BSt) (level : Int) (low high : Nat)

set_option maxRecDepth 100000 in
set_option maxHeartbeats 2000000 in
theorem badd_early (h : BldAt c w bb b G s x y) (hl : y.done = true ∨ (y.done = false ∧ ¬ y.dead = 0) ∨ (y.done = false ∧ y.dead = 0 ∧ (level < 0 ∨ (0 ≤ level ∧ (y.vars : Int) ≤ level)))) :
    Calls Tryz.prog 67 #[.pointer (some ⟨bb, 0, none⟩), .int .i64 level, .int .u64 low, .int .u64 high] w (AddPost c bb b G w (badd c s x y level low high)) := by
  have c1 : w.cell? ⟨bb, 1, none⟩ = some (.int .i64 y.vars) := h.blk.at_ 1
  have c6 : w.cell? ⟨bb, 6, none⟩ = some (.int .i64 y.dead) := h.blk.at_ 6
  have c7 : w.cell? ⟨bb, 7, none⟩ = some (.bool y.done) := h.blk.at_ 7
  rcases hl with hd | ⟨hd, hq⟩ | ⟨hd, hq, hl⟩
  · have HX := Hid.intro_ (show badd c s x y level low high = ⟨0, 6, s, x, y⟩ by unfold badd; rw [if_pos hd])
    rw [hd] at c7
    clear hd
    go_enter Tryz.func67, Tryz.ntmps67
    go_wp2
    go_ret2
    rw [HX.out]
    exact ⟨rfl, BldTo.refl h⟩
  · have HX := Hid.intro_ (show badd c s x y level low high = ⟨0, y.dead, s, x, y⟩ by unfold badd; rw [if_neg (by simp [hd]), if_pos hq])
    rw [hd] at c7
    have q : (y.dead != 0) = true := by simpa using hq
    clear hd hq
    go_enter Tryz.func67, Tryz.ntmps67
    go_wp2
    go_quiet (fail)
    go_wp2
    go_ret2
    rw [HX.out]
    exact ⟨rfl, (BldTo.refl h).nil ((Keep.refl Nil w).drewN _)⟩
  · have HX := Hid.intro_ (show badd c s x y level low high = ⟨0, 3, s, x, y⟩ by unfold badd; rw [if_neg (by simp [hd]), if_neg (by simp [hq]), if_pos (by rcases hl with h | h; exact .inl h; exact .inr h.2)])
    rw [hd] at c7
    rw [hq] at c6
    clear hd hq
    rcases hl with hl | ⟨hl0, hl⟩
    · go_enter Tryz.func67, Tryz.ntmps67
      go_wp2
      go_ret2
      rw [HX.out]
      exact ⟨rfl, BldTo.refl h⟩
    · go_enter Tryz.func67, Tryz.ntmps67
      go_wp2
      go_ret2
      rw [HX.out]
      exact ⟨rfl, BldTo.refl h⟩

set_option maxRecDepth 100000 in
set_option maxHeartbeats 4000000 in
theorem badd_go (h : BldAt c w bb b G s x y) (hd : y.done = false) (hq : y.dead = 0) (hl0 : 0 ≤ level) (hl1 : level < y.vars) (hv : y.vars ≤ 65536) (hlo : low < 18446744073709551616) (hhi : high < 18446744073709551616) (hlen : x.list.length < c.K) (hp : x.place < 2305843009213693952) (hcn : x.count < 4611686018427387904) :
    Calls Tryz.prog 67 #[.pointer (some ⟨bb, 0, none⟩), .int .i64 level, .int .u64 low, .int .u64 high] w (AddPost c bb b G w (badd c s x y level low high)) := by
  have c0 : w.cell? ⟨bb, 0, none⟩ = some (.pointer (some ⟨b, 0, none⟩)) := h.blk.at_ 0
  have c1 : w.cell? ⟨bb, 1, none⟩ = some (.int .i64 y.vars) := h.blk.at_ 1
  have c2 : w.cell? ⟨bb, 2, none⟩ = some (.int .u64 y.last.self) := h.blk.at_ 2
  have c3 : w.cell? ⟨bb, 3, none⟩ = some (.int .u64 y.last.low) := h.blk.at_ 3
  have c4 : w.cell? ⟨bb, 4, none⟩ = some (.int .u64 y.last.high) := h.blk.at_ 4
  have c5 : w.cell? ⟨bb, 5, none⟩ = some (.bool y.some_) := h.blk.at_ 5
  have c6 : w.cell? ⟨bb, 6, none⟩ = some (.int .i64 y.dead) := h.blk.at_ 6
  have c7 : w.cell? ⟨bb, 7, none⟩ = some (.bool y.done) := h.blk.at_ 7
  have hok := h.ok
  have lbb := h.blk.lt
  have HX := Hid.intro_ (show badd c s x y level low high = match bid y level with | none => ⟨0, 70, s, x, y⟩ | some id => badd2 c s x y level low high id by
    conv => lhs; unfold badd
    rw [if_neg (by simp [hd]), if_neg (by simp [hq]), if_neg (by omega)])
  rw [hd] at c7
  rw [hq] at c6
  clear hd hq
  have hsp := split_t y.last.self hok.a w
  have hsl := sL_lt y.last.self
  go_enter Tryz.func67, Tryz.ntmps67
  go_upto_if 49 with (fail)
  go_cut [10] from 10 to 69 (fun v wc => ∃ I : Int, bid y level = some I ∧ v = .int .i64 I ∧ wc = w)
  case first =>
    cases hs : y.some_
    · rw [hs] at c5
      have HB := Hid.intro_ (show bid y level = some 0 by unfold bid; rw [if_pos hs])
      clear hs
      go_wp2
      go_meet
      exact ⟨0, HB.out, rfl, rfl⟩
    · rw [hs] at c5
      have hsi := sI_lt y.last.self
      generalize hL : sL y.last.self = L at *
      generalize hI : sI y.last.self = I at *
      have HL := Hid.intro_ hL
      have HI := Hid.intro_ hI
      clear hL hI
      by_cases h1 : L < level
      · have HB := Hid.intro_ (show bid y level = none by unfold bid; rw [if_neg (by simp [hs]), HL.out, if_pos h1])
        clear hs
        go_wp2_with (go_at_call 100; refine hsp.mono ?_; rintro e w' ⟨rfl, hw⟩; obtain rfl := hw.symm)
        go_ret2
        rw [HX.out, HB.out]
        exact ⟨rfl, BldTo.refl h⟩
      · by_cases h2 : level = L
        · have HB := Hid.intro_ (show bid y level = some (I + 1) by unfold bid; rw [if_neg (by simp [hs]), HL.out, if_neg h1, if_pos h2, HI.out])
          have q : (level == L) = true := by simpa using h2
          have h3 : level ≤ L := by omega
          clear hs h2 h1
          go_wp2_with (go_at_call 100; refine hsp.mono ?_; rintro e w' ⟨rfl, hw⟩; obtain rfl := hw.symm)
          go_meet
          exact ⟨_, HB.out, rfl, rfl⟩
        · have HB := Hid.intro_ (show bid y level = some 0 by unfold bid; rw [if_neg (by simp [hs]), HL.out, if_neg h1, if_neg h2])
          have q : (level == L) = false := by simpa using h2
          have h3 : level ≤ L := by omega
          clear hs h2 h1
          go_wp2_with (go_at_call 100; refine hsp.mono ?_; rintro e w' ⟨rfl, hw⟩; obtain rfl := hw.symm)
          go_meet
          exact ⟨0, HB.out, rfl, rfl⟩
  case rest =>
    obtain ⟨I, hI, rfl, hwc⟩ := hcut
    obtain rfl := hwc.symm
    have HX2 : Hid (badd c s x y level low high = badd2 c s x y level low high I) := by have := HX.out; rw [hI] at this; exact this
    clear HX
    have hI0 : 0 ≤ I ∧ I ≤ 1099511627776 := by
      unfold bid at hI
      have hsi := sI_lt y.last.self
      split at hI
      · injection hI with hI; omega
      split at hI
      · cases hI
      split at hI <;> (injection hI with hI; omega)
    have HI := Hid.intro_ hI
    clear hI
    go_wp2_with fail
    go_cut [108] from 73 to 108 (fun v wd => v = .bool (badArc y level low high I) ∧ Keep Nil (w.alloc (.cells #[.int .u64 0, .int .u64 low, .int .u64 high] 46)) wd)
    case first =>
      have hu1 := fun W => under_any low level y.vars hlo W
      have hu2 := fun W => under_any high level y.vars hhi W
      have hbh := behind_any 0 low high y.last.self y.last.low y.last.high ((w.alloc (.cells #[.int .u64 0, .int .u64 low, .int .u64 high] 46)).drew)
      unfold ndV at hbh
      have hbad : badArc y level low high I = (decide (low = high) || !uN low level y.vars || !uN high level y.vars || (decide (0 < I) && !bhd low high y.last.low y.last.high)) := rfl
      by_cases q1 : low = high
      · have e1 : ((low : Int) == (high : Int)) = true := by rw [q1]; simp
        have HB : Hid (badArc y level low high I = true) := by rw [hbad, decide_eq_true q1]; simp [Hid.intro_]
        clear q1 hu1 hu2 hbh hbad
        go_quiet (fail)
        go_wp2
        go_meet
        exact ⟨by rw [HB.out], (Keep.refl Nil _).drewN _⟩
      · have e1 : ((low : Int) == (high : Int)) = false := by rw [beq_eq_false_iff_ne]; omega
        rw [decide_eq_false q1, Bool.false_or] at hbad
        clear q1
        cases u1 : uN low level y.vars
        · have HB : Hid (badArc y level low high I = true) := by rw [hbad, u1]; simp [Hid.intro_]
          rw [u1] at hu1
          have HU1 := Hid.intro_ hu1
          clear hu1 hu2 hbh hbad u1
          go_quiet ((go_at_call 137; exact Calls.quiet_of_same (HU1.out _)))
          go_wp2
          go_meet
          exact ⟨by rw [HB.out], (Keep.refl Nil _).drewN _⟩
        rw [u1, Bool.not_true, Bool.false_or] at hbad
        rw [u1] at hu1
        clear u1
        cases u2 : uN high level y.vars
        · have HB : Hid (badArc y level low high I = true) := by rw [hbad, u2]; simp [Hid.intro_]
          rw [u2] at hu2
          have HU1 := Hid.intro_ hu1
          have HU2 := Hid.intro_ hu2
          clear hu1 hu2 hbh hbad u2
          go_quiet (((go_at_call 137; first | (with_reducible exact Calls.quiet_of_same (HU1.out _)) | (with_reducible exact Calls.quiet_of_same (HU2.out _)))))
          go_wp2
          go_meet
          exact ⟨by rw [HB.out], (Keep.refl Nil _).drewN _⟩
        rw [u2, Bool.not_true, Bool.false_or] at hbad
        rw [u2] at hu2
        clear u2
        have HU1 := Hid.intro_ hu1
        have HU2 := Hid.intro_ hu2
        have HBH := Hid.intro_ hbh
        clear hu1 hu2 hbh
        by_cases hI1 : 0 < I
        · have HB : Hid (badArc y level low high I = !bhd low high y.last.low y.last.high) := by rw [hbad, decide_eq_true hI1]; simp [Hid.intro_]
          have e2 : decide (0 < I) = true := by simpa using hI1
          clear hbad
          have kX := (Keep.refl Nil w).alloc (.cells #[.int .u64 0, .int .u64 low, .int .u64 high] 46)
          have bX := Blk.new w 46 #[.int .u64 0, .int .u64 low, .int .u64 high]
          have hkX := h.blk.keep kX (fun h => h)
          generalize w.alloc (.cells #[.int .u64 0, .int .u64 low, .int .u64 high] 46) = X at *
          have x1 : X.cell? ⟨bb, 1, none⟩ = some (.int .i64 y.vars) := hkX.at_ 1
          have x2 : X.cell? ⟨bb, 2, none⟩ = some (.int .u64 y.last.self) := hkX.at_ 2
          have x3 : X.cell? ⟨bb, 3, none⟩ = some (.int .u64 y.last.low) := hkX.at_ 3
          have x4 : X.cell? ⟨bb, 4, none⟩ = some (.int .u64 y.last.high) := hkX.at_ 4
          have z0 : X.cell? ⟨w.heap.size, 0, none⟩ = some (.int .u64 0) := bX.at_ 0
          have z1 : X.cell? ⟨w.heap.size, 1, none⟩ = some (.int .u64 low) := bX.at_ 1
          have z2 : X.cell? ⟨w.heap.size, 2, none⟩ = some (.int .u64 high) := bX.at_ 2
          go_still_tail 32, (by kernel_rfl)
          still_call (HU1.out _)
          repeat still_step
          still_call (HU2.out _)
          repeat still_step
          refine wpStill_nil ?_
          change wpList _ _ _ _ _ X.drew
          go_wp2_with fail
          refine HBH.out.mono ?_
          rintro e w4 ⟨rfl, k4⟩
          go_wp2_with fail
          go_meet
          exact ⟨by rw [HB.out], ((Keep.refl Nil X).drew).then_ k4⟩
        · have HB : Hid (badArc y level low high I = false) := by rw [hbad, decide_eq_false hI1]; simp [Hid.intro_]
          have e2 : decide (0 < I) = false := by simpa using hI1
          clear hbad
          go_quiet (((go_at_call 137; first | (with_reducible exact Calls.quiet_of_same (HU1.out _)) | (with_reducible exact Calls.quiet_of_same (HU2.out _)))))
          go_wp2
          go_meet
          exact ⟨by rw [HB.out], (Keep.refl Nil _).drewN _⟩
    case rest =>
      obtain ⟨rfl, kd⟩ := hcut
      have kX := (Keep.refl Nil w).alloc (.cells #[.int .u64 0, .int .u64 low, .int .u64 high] 46)
      have bX := Blk.new w 46 #[.int .u64 0, .int .u64 low, .int .u64 high]
      have kw := kX.then_ kd
      have bd := h.blk.keep kw (fun h => h)
      have bb2 := bX.keep kd (fun h => h)
      have hbd := h.nil kw
      have z0 : wc.cell? ⟨w.heap.size, 0, none⟩ = some (.int .u64 0) := bb2.at_ 0
      have z1 : wc.cell? ⟨w.heap.size, 1, none⟩ = some (.int .u64 low) := bb2.at_ 1
      have z2 : wc.cell? ⟨w.heap.size, 2, none⟩ = some (.int .u64 high) := bb2.at_ 2
      have zf := bb2.fr 0
      have x0 : wc.cell? ⟨bb, 0, none⟩ = some (.pointer (some ⟨b, 0, none⟩)) := bd.at_ 0
      have lwd := hbd.blk.lt
      have nbw : ¬ bb = w.heap.size := by omega
      cases hb : badArc y level low high I
      · have hx3 : badd c s x y level low high = if ¬ (inner level I).2 = 0 then ⟨0, (inner level I).2, s, x, y⟩ else if ¬ (wput c s x ⟨(inner level I).1.toNat, low, high, 0⟩).1 = 0 then ⟨0, (wput c s x ⟨(inner level I).1.toNat, low, high, 0⟩).1, (wput c s x ⟨(inner level I).1.toNat, low, high, 0⟩).2.1, (wput c s x ⟨(inner level I).1.toNat, low, high, 0⟩).2.2, { y with dead := (wput c s x ⟨(inner level I).1.toNat, low, high, 0⟩).1 }⟩
            else ⟨(inner level I).1, 0, (wput c s x ⟨(inner level I).1.toNat, low, high, 0⟩).2.1, (wput c s x ⟨(inner level I).1.toNat, low, high, 0⟩).2.2, { y with last := ⟨(inner level I).1.toNat, low, high⟩, some_ := true }⟩ := by
          rw [HX2.out]
          unfold badd2
          rw [if_neg (by simp [hb])]
        have hin := inner_any level I wc
        have hnn : ∃ S : Nat, (inner level I).1 = S ∧ S < 18446744073709551616 := by
          refine ⟨(inner level I).1.toNat, ?_, ?_⟩ <;> (unfold inner; repeat' split) <;> simp only <;> omega
        clear hb
        generalize inner level I = q at *
        obtain ⟨q1, q2⟩ := q
        obtain ⟨S, hS, hSlt⟩ := hnn
        simp only at hS hx3 hin
        subst hS
        rw [Int.toNat_natCast] at hx3
        by_cases he : q2 = 0
        · subst he
          rw [if_neg (by simp)] at hx3
          obtain ⟨p, hp'⟩ : ∃ p, p = wput c s x ⟨S, low, high, 0⟩ := ⟨_, rfl⟩
          rw [← hp'] at hx3
          have HP' := Hid.intro_ hp'
          have kk : Keep (fun z => z = w.heap.size) wc (wc.setCell ⟨w.heap.size, 0, none⟩ (.int .u64 S)) := (Keep.refl (fun z => z = w.heap.size) wc).setCell (p := ⟨w.heap.size, 0, none⟩) (fun _ => rfl) _
          have hoff : ∀ z, z = w.heap.size → Off c.E G z := by
            rintro z rfl
            obtain ⟨G0, hw0, _, _⟩ := h.via
            have := Off.new hw0.env hw0.lt (Nat.le_refl _)
            exact ⟨fun hg => Nat.lt_irrefl _ (h.lt _ hg), this.2⟩
          have hbX : Hid (BldAt c (wc.setCell ⟨w.heap.size, 0, none⟩ (.int .u64 S)) bb b G s x y) := by
            obtain ⟨G0, rfl, hw0, nb⟩ := hbd.out
            exact ⟨⟨G0, rfl, hw0.keep kk (fun z hz => by have := hoff z hz; exact ⟨fun hg => this.1 (.inl hg), this.2⟩), nb⟩, hbd.blk.keep kk (fun e => nbw e), hbd.ok⟩
          have hkX : Hid (Keep Nil w (wc.setCell ⟨w.heap.size, 0, none⟩ (.int .u64 S))) := kw.setCell (p := ⟨w.heap.size, 0, none⟩) (fun hl => absurd hl (by simp)) _
          have hbxX : Hid (Blk (wc.setCell ⟨w.heap.size, 0, none⟩ (.int .u64 S)) w.heap.size 46 #[.int .u64 S, .int .u64 low, .int .u64 high]) := bb2.set_ 0 _
          clear hp' kk hoff
          go_wp2_with (go_at_call 139; refine hin.mono ?_; rintro e w' ⟨rfl, hw⟩; obtain rfl := hw.symm)
          generalize wc.setCell ⟨w.heap.size, 0, none⟩ (.int .u64 S) = X at *
          have y0 : X.cell? ⟨bb, 0, none⟩ = some (.pointer (some ⟨b, 0, none⟩)) := hbX.out.blk.at_ 0
          have u0 : X.cell? ⟨w.heap.size, 0, none⟩ = some (.int .u64 S) := hbxX.out.at_ 0
          have u1 : X.cell? ⟨w.heap.size, 1, none⟩ = some (.int .u64 low) := hbxX.out.at_ 1
          have u2 : X.cell? ⟨w.heap.size, 2, none⟩ = some (.int .u64 high) := hbxX.out.at_ 2
          have hrec := record_any S low high X.drew
          unfold ndV rcV at hrec
          have hput : ∀ w5, Keep Nil X.drew w5 → ∃ G0, Hid (∀ s' x' w', WrtTo c b G0 s' x' w5 w' → BldTo c bb b G s' x' y w5 w') ∧ Calls Tryz.prog 135 #[.pointer (some ⟨b, 0, none⟩), .agg #[.int .u64 S, .int .u64 low, .int .u64 high, .int .u64 0]] w5 (WPost c b G0 w5 p) := fun w5 k5 => by
            obtain ⟨G0, hw5, _, hvia⟩ := (hbX.out.nil (((Keep.refl Nil X).drew).then_ k5)).via
            refine ⟨G0, hvia, ?_⟩
            have := put_any_w c w5 b G0 s x ⟨S, low, high, 0⟩ hw5 hlen ⟨hSlt, hlo, hhi, (by decide : 0 < 18446744073709551616)⟩ (by omega) hcn
            rw [← HP'.out] at this
            exact this
          have HPUT := Hid.intro_ hput
          have HX3 := Hid.intro_ hx3
          clear hput hx3 hin
          go_region_held3 (fun w' => w'.cell? ⟨bb, 0, none⟩ = some (.pointer (some ⟨b, 0, none⟩)) ∧ w'.cell? ⟨w.heap.size, 0, none⟩ = some (.int .u64 S) ∧ w'.cell? ⟨w.heap.size, 1, none⟩ = some (.int .u64 low) ∧ w'.cell? ⟨w.heap.size, 2, none⟩ = some (.int .u64 high))
            (first | exact ⟨y0, u0, u1, u2⟩ | exact ⟨cell_keep (w := X.drew) y0 k5 (fun h => h), cell_keep (w := X.drew) u0 k5 (fun h => h), cell_keep (w := X.drew) u1 k5 (fun h => h), cell_keep (w := X.drew) u2 k5 (fun h => h)⟩ | exact hS6.out)
            (first
              | (go_at_call 140; refine hrec.mono ?_; rintro e w5 ⟨rfl, k5⟩
                 obtain ⟨G0, hvia, hcp⟩ := HPUT.out w5 k5
                 have HCP := Hid.intro_ hcp
                 clear hcp)
              | (go_at_call 135; refine HCP.out.mono ?_; rintro e w6 ⟨rfl, ht⟩
                 have hto := hvia.out _ _ _ ht
                 have hS6 : Hid (w6.cell? ⟨bb, 0, none⟩ = some (.pointer (some ⟨b, 0, none⟩)) ∧ w6.cell? ⟨w.heap.size, 0, none⟩ = some (.int .u64 S) ∧ w6.cell? ⟨w.heap.size, 1, none⟩ = some (.int .u64 low) ∧ w6.cell? ⟨w.heap.size, 2, none⟩ = some (.int .u64 high)) := by
                   obtain ⟨G7, h7, s7⟩ := hto
                   have nG : ¬ G w.heap.size := fun hg => Nat.lt_irrefl _ (h.lt _ hg)
                   exact ⟨h7.blk.at_ 0, cell_keep (cell_keep (w := X.drew) u0 k5 (fun h => h)) s7.keep nG, cell_keep (cell_keep (w := X.drew) u1 k5 (fun h => h)) s7.keep nG, cell_keep (cell_keep (w := X.drew) u2 k5 (fun h => h)) s7.keep nG⟩
                 have HTO := Hid.intro_ hto
                 clear hto ht))
          obtain ⟨G7, h7, s7⟩ := HTO.out
          obtain ⟨v0, v1, v2, v3⟩ := hS6.out
          have d2 : w6.cell? ⟨bb, 2, none⟩ = some (.int .u64 y.last.self) := h7.blk.at_ 2
          have d3 : w6.cell? ⟨bb, 3, none⟩ = some (.int .u64 y.last.low) := h7.blk.at_ 3
          have d4 : w6.cell? ⟨bb, 4, none⟩ = some (.int .u64 y.last.high) := h7.blk.at_ 4
          have d5 : w6.cell? ⟨bb, 5, none⟩ = some (.bool y.some_) := h7.blk.at_ 5
          have d6 : w6.cell? ⟨bb, 6, none⟩ = some (.int .i64 y.dead) := h7.blk.at_ 6
          have g2 := h7.blk.fr 2
          have g3 := h7.blk.fr 3
          have g4 := h7.blk.fr 4
          have g5 := h7.blk.fr 5
          have g6 := h7.blk.fr 6
          have SS : Hid (Stp w G w6 G7) := (Stp.of_nil (hkX.out.then_ (((Keep.refl Nil X).drew).then_ k5)) G).trans s7
          clear s7 x0 c0 c1 c2 c3 c4 c5 c6 c7 z0 z1 z2
          by_cases hz : p.1 = 0
          · have hz1 : (p.1 != 0) = false := by simp [hz]
            have HXX : Hid (badd c s x y level low high = ⟨S, 0, p.2.1, p.2.2, { y with last := ⟨S, low, high⟩, some_ := true }⟩) := by have := HX3.out; rw [if_neg (by simp [hz])] at this; exact this
            have hfin := Hid.intro_ (h7.recell (y' := { y with last := ⟨S, low, high⟩, some_ := true }) (((((Keep.refl (fun z => z = bb) w6).setCell (p := ⟨bb, 2, none⟩) (fun _ => rfl) (.int .u64 S)).setCell (p := ⟨bb, 3, none⟩) (fun _ => rfl) (.int .u64 low)).setCell (p := ⟨bb, 4, none⟩) (fun _ => rfl) (.int .u64 high)).setCell (p := ⟨bb, 5, none⟩) (fun _ => rfl) (.bool true))
              ((((h7.blk.set_ 2 _).set_ 3 _).set_ 4 _).set_ 5 _) ⟨hSlt, hlo, hhi⟩)
            clear hz
            go_wp2
            go_ret2
            rw [HXX.out]
            obtain ⟨G8, h8, s8⟩ := hfin.out
            exact ⟨rfl, G8, h8, SS.out.trans s8⟩
          · have hz1 : (p.1 != 0) = true := by simp [hz]
            have HXX : Hid (badd c s x y level low high = ⟨0, p.1, p.2.1, p.2.2, { y with dead := p.1 }⟩) := by have := HX3.out; rw [if_pos (by simp [hz])] at this; exact this
            have hfin := Hid.intro_ (h7.recell (y' := { y with dead := p.1 }) ((Keep.refl (fun z => z = bb) w6).setCell (p := ⟨bb, 6, none⟩) (fun _ => rfl) (.int .i64 p.1)) (h7.blk.set_ 6 _) h7.ok)
            clear hz
            go_wp2
            go_ret2
            rw [HXX.out]
            obtain ⟨G8, h8, s8⟩ := hfin.out
            exact ⟨rfl, G8, h8, SS.out.trans s8⟩
        · have qe : (q2 != 0) = true := by simpa using he
          rw [if_pos he] at hx3
          have HX3 := Hid.intro_ hx3
          clear hx3 he
          go_wp2_with (go_at_call 139; refine hin.mono ?_; rintro e w' ⟨rfl, hw⟩; obtain rfl := hw.symm)
          go_ret2
          rw [HX3.out]
          exact ⟨rfl, (BldTo.refl h).nil kw⟩
      · have HXX : Hid (badd c s x y level low high = ⟨0, 70, s, x, y⟩) := by have := HX2.out; rw [show badd2 c s x y level low high I = ⟨0, 70, s, x, y⟩ from if_pos hb] at this; exact this
        clear hb
        go_wp2
        go_ret2
        rw [HXX.out]
        exact ⟨rfl, (BldTo.refl h).nil kw⟩
end
end Go.Proofs.YtadipinnbehhhaaGreatDoor
namespace Go.Proofs.YtadipinnbehhhaaGreatDoor
open Go.RowKit

structure Mo where
  vars : Nat
  last : N3
  any : Bool
  done : Bool
  recs : List R4

/-- A model's cells. -/
def moCells (m : Mo) (v : Value) : Array Value := #[.int .i64 m.vars, .int .u64 m.last.self, .int .u64 m.last.low, .int .u64 m.last.high, .bool m.any, .bool m.done, v]

/-- The number that add gives; none: it refuses by 70. -/
def moId (m : Mo) (level : Int) : Option Int :=
  if m.any = false then some 0 else if sL m.last.self < level then none else if level = sL m.last.self then some (sI m.last.self + 1) else some 0

/-- A model in memory: its block, and the row of its records, from base on, beside the frame G. -/
structure MoAt (w : World) (E : Nat → Addr) (G : Nat → Prop) (g base : Nat) (m : Mo) : Prop where mk ::
  out : ∃ v, Blk w g 49 (moCells m v) ∧ w.ownsRow base 111 4 v m.recs.length (rcCells m.recs) ∧ ∀ z, v.ownBlock = some z → Off E G z
  off : Off E G g
  base : base ≤ g
/-- The blocks from base on, beside the frame. -/
def Bes (E : Nat → Addr) (G : Nat → Prop) (base : Nat) : Nat → Prop := fun z => base ≤ z ∧ Off E G z
/-- The model's own blocks. -/
def Mine (w : World) (g : Nat) : Nat → Prop := fun z => z = g ∨ ∃ v, w.cell? ⟨g, 6, none⟩ = some v ∧ v.ownBlock = some z
def MoTo (E : Nat → Addr) (G : Nat → Prop) (g base : Nat) (m' : Mo) (w w' : World) : Prop := MoAt w' E G g base m' ∧ Keep (Mine w g) w w'
theorem MoAt.mine {w : World} {E : Nat → Addr} {G : Nat → Prop} {g base : Nat} {m : Mo} (h : MoAt w E G g base m) {z : Nat} (hz : Mine w g z) : Bes E G base z ∧ z < w.heap.size := by
  obtain ⟨v, hb, ho, hv⟩ := h.out
  rcases hz with e | ⟨u, hu, e⟩
  · rw [e]; exact ⟨⟨h.base, h.off⟩, hb.lt⟩
  · have h6 : w.cell? ⟨g, 6, none⟩ = some v := hb.at_ 6
    rw [h6] at hu
    injection hu with hu
    rw [← hu] at e
    exact ⟨⟨own_base ho e, hv z e⟩, (ho.lt z e).2⟩

/-- What is the model's behind a step beside it was its own before. -/
theorem MoAt.mine_old {w w' : World} {E : Nat → Addr} {G G' : Nat → Prop} {g base : Nat} {m : Mo} (h : MoAt w E G g base m) (s : Stp w G w' G') {z : Nat} (hz : Mine w' g z) : Mine w g z := by
  obtain ⟨v, hb, ho, hv⟩ := h.out
  rcases hz with e | ⟨u, hu, e⟩
  · exact .inl e
  · have h6 : w'.cell? ⟨g, 6, none⟩ = some v := (hb.keep s.keep h.off.1).at_ 6
    rw [h6] at hu
    injection hu with hu
    rw [← hu] at e
    exact .inr ⟨v, hb.at_ 6, e⟩

theorem MoAt.step {w w' : World} {E : Nat → Addr} {G G' : Nat → Prop} {g base : Nat} {m : Mo} (h : MoAt w E G g base m) (s : Stp w G w' G') : MoAt w' E G' g base m := by
  obtain ⟨v, hb, ho, hv⟩ := h.out
  exact ⟨⟨v, hb.keep s.keep h.off.1, own_keep ho s.keep (fun z hz => (hv z hz).1), fun z hz => (hv z hz).step (ho.lt z hz).2 s⟩, h.off.step hb.lt s, h.base⟩
theorem MoAt.nil {w w' : World} {E : Nat → Addr} {G : Nat → Prop} {g base : Nat} {m : Mo} (h : MoAt w E G g base m) (k : Keep Nil w w') : MoAt w' E G g base m := h.step (Stp.of_nil k G)
theorem MoTo.refl {w : World} {E : Nat → Addr} {G : Nat → Prop} {g base : Nat} {m : Mo} (h : MoAt w E G g base m) : MoTo E G g base m w w := ⟨h, Keep.refl _ _⟩
theorem MoTo.of_nil {w w' : World} {E : Nat → Addr} {G : Nat → Prop} {g base : Nat} {m : Mo} (h : MoAt w E G g base m) (k : Keep Nil w w') : MoTo E G g base m w w' := ⟨h.nil k, k.mono fun _ _ h => h.elim⟩
/-- What turns beside a builder. -/
theorem BldAt.keep {c : Cx} {w w' : World} {bb b : Nat} {G H : Nat → Prop} {s : RSt} {x : WSt} {y : BSt} (h : BldAt c w bb b G s x y) (k : Keep H w w') (hH : ∀ z, H z → Off c.E G z) : BldAt c w' bb b G s x y := by
  obtain ⟨G0, rfl, hw, nb⟩ := h.out
  exact ⟨⟨G0, rfl, hw.keep k (fun z hz => ⟨fun hg => (hH z hz).1 (.inl hg), (hH z hz).2⟩), nb⟩, h.blk.keep k (fun hb => (hH bb hb).1 (.inr rfl)), h.ok⟩
theorem BldAt.env {c : Cx} {w : World} {bb b : Nat} {G : Nat → Prop} {s : RSt} {x : WSt} {y : BSt} (h : BldAt c w bb b G s x y) : Envs c.E w G := by
  obtain ⟨G0, rfl, hw, nb⟩ := h.out
  have e := hw.env
  exact ⟨⟨e.errs.errs, fun i hi hf => hf.elim (e.errs.nv i hi) (nb.2.1 i hi).1, fun i hi hf => hf.elim (e.errs.nb i hi) (nb.2.1 i hi).2⟩, e.halves, e.magic, fun hf => hf.elim e.nh (fun h => nb.2.2.1 h.symm), fun hf => hf.elim e.nm (fun h => nb.2.2.2 h.symm)⟩
/-- A record comes to the row. -/
theorem MoAt.push {w w2 w3 : World} {E : Nat → Addr} {G : Nat → Prop} {g base : Nat} {m : Mo} {v v' : Value} {r : R4} (he : Envs E w G) (hlt : ∀ b, G b → b < w.heap.size) (hoff : Off E G g) (hbase : base ≤ g) (k2 : Keep (Mine w g) w w2) (hc6 : w.cell? ⟨g, 6, none⟩ = some v) (hb2 : Blk w2 g 49 (moCells m v))
    (ho2 : w2.ownsRow base 111 4 v m.recs.length (rcCells m.recs)) (hvo : ∀ z, v.ownBlock = some z → Off E G z) (ho3 : w3.ownsRow base 111 4 v' (m.recs.length + 1) (rcCells m.recs ++ [.int .u64 r.a, .int .u64 r.b, .int .u64 r.c, .int .u64 r.d])) (k3 : Keep (fun z => v.ownBlock = some z) w2 w3) (hv3 : v'.ownBlock = v.ownBlock ∨ v'.ownBlock = some w2.heap.size) :
    MoTo E G g base { m with recs := m.recs ++ [r] } w (w3.setCell ⟨g, 6, none⟩ v') := by
  have hng : ∀ z, v.ownBlock = some z → z ≠ g := fun z hz e => by
    obtain ⟨cur, hc⟩ := own_blk ho2 hz
    rw [e] at hc
    exact Blk.ne_ hb2 hc (by decide) rfl
  have hng3 : ∀ z, v'.ownBlock = some z → z ≠ g := fun z hz e => by
    obtain ⟨cur, hc⟩ := own_blk ho3 hz
    rw [e] at hc
    exact Blk.ne_ (hb2.keep k3 (fun h => hng g h rfl)) hc (by decide) rfl
  refine ⟨⟨⟨v', (hb2.keep k3 (fun h => hng g h rfl)).set_ 6 v', ?_, fun z hz => ?_⟩, hoff, hbase⟩, ?_⟩
  · have := own_keep ho3 ((Keep.refl (fun z => z = g) w3).setCell (p := ⟨g, 6, none⟩) (fun _ => rfl) v') (fun z hz e => hng3 z hz e)
    simp only [List.length_append, List.length_singleton]
    rw [rcCells_app]
    exact this
  · rcases hv3 with e | e
    · exact hvo z (by rw [← e]; exact hz)
    · rw [e] at hz
      injection hz with hz
      rw [← hz]
      exact Off.new he hlt k2.size
  · refine k2.trans ((k3.mono (fun z _ hz => (.inr ⟨v, hc6, hz⟩ : Mine w g z))).trans ((Keep.refl (Mine w g) w3).setCell (p := ⟨g, 6, none⟩) (fun _ => .inl rfl) v') (fun _ _ h => h)) (fun _ _ h => h)
end Go.Proofs.YtadipinnbehhhaaGreatDoor
namespace Go.Proofs.YtadipinnbehhhaaGreatDoor
open Go.RowKit

/-- A disk that is on, without troubles, and has just these files. -/
structure Calm (D : DSt) (block : Int) (fs : List (ByteArray × AFile)) : Prop where
  on : D.on = true
  block : D.block = block
  room : D.room = 1099511627776
  trs : D.trs = []
  files : D.files = fs
  used : D.used = total fs

section
variable {D : DSt} {block : Int} {fs : List (ByteArray × AFile)} {s : ByteArray} {f : AFile} {bs : List Int}

theorem Calm.fate (h : Calm D block fs) (b : Bool) : D.fate b = .done := by
  unfold DSt.fate DSt.hit
  rw [h.trs]
  rfl
theorem Calm.outcome (h : Calm D block fs) (b : Bool) (dn : DSt → DSt) (pt : Int → DSt → DSt) : D.outcome b dn pt = (dn D.numbered, 0) := by
  unfold DSt.outcome
  rw [h.fate]
theorem Calm.numbered (h : Calm D block fs) : Calm D.numbered block fs := ⟨h.on, h.block, h.room, h.trs, h.files, h.used⟩

theorem fpos_last : ∀ {fs : List (ByteArray × AFile)}, s ∉ fs.map (·.1) → fpos s (fs ++ [(s, f)]) = some (fs.length, f)
  | [], _ => by simp [fpos]
  | (k, g) :: r, h => by
    have h1 : ¬ s = k := fun e => h (by simp [e])
    have h2 : s ∉ r.map (·.1) := fun e => h (by simp only [List.map_cons, List.mem_cons]; exact .inr e)
    rw [List.cons_append]
    unfold fpos
    rw [if_neg h1, fpos_last h2]
    rfl
theorem updF_off {g : AFile → AFile} : ∀ {fs : List (ByteArray × AFile)}, s ∉ fs.map (·.1) → updF s g fs = fs
  | [], _ => rfl
  | (k, x) :: r, h => by
    have h1 : ¬ k = s := fun e => h (by simp [e])
    have h2 : s ∉ r.map (·.1) := fun e => h (by simp only [List.map_cons, List.mem_cons]; exact .inr e)
    have ih := updF_off (g := g) h2
    unfold updF at ih ⊢
    rw [List.map_cons, ih]
    simp [h1]
theorem updF_last {g : AFile → AFile} (h : s ∉ fs.map (·.1)) : updF s g (fs ++ [(s, f)]) = fs ++ [(s, g f)] := by
  have := updF_off (g := g) h
  unfold updF at this ⊢
  rw [List.map_append, this]
  simp
theorem Calm.perr (h : Calm D block (fs ++ [(s, f)])) (hn : okName s = true) (hs : s ∉ fs.map (·.1)) : D.perr s = none := by
  unfold DSt.perr DSt.ferr
  rw [h.on, hn, h.files, fpos_last hs]
  simp
theorem total_one (f : ByteArray × AFile) : total [f] = f.2.blocks.length := by simp [total]
theorem Calm.append (h : Calm D block (fs ++ [(s, f)])) (hn : okName s = true) (hs : s ∉ fs.map (·.1)) (hf : f.done = false) (hb : (bs.length : Int) = block) (ht : total fs + f.blocks.length < 1099511627776) :
    (D.append_ s bs).2 = 0 ∧ Calm (D.append_ s bs).1 block (fs ++ [(s, { f with blocks := f.blocks ++ [bs] })]) := by
  have e : D.append_ s bs = ((D.numbered.put s f bs).appended, 0) := by
    unfold DSt.append_
    rw [h.perr hn hs, h.files, fpos_last hs]
    simp only [hf]
    rw [if_neg (by simp), if_neg (by rw [hb, h.block]; simp), if_neg (by rw [h.room, h.used, total_append, total_one]; simp only; omega), h.outcome]
  rw [e]
  refine ⟨rfl, h.on, h.block, h.room, h.trs, ?_, ?_⟩
  · show updF s (fun _ => { f with blocks := f.blocks ++ [bs] }) D.files = _
    rw [h.files, updF_last hs]
  · show D.used + 1 = _
    rw [h.used, total_append, total_append, total_one, total_one]
    simp only [List.length_append, List.length_singleton]
    omega
theorem Calm.sealed (h : Calm D block (fs ++ [(s, f)])) (hn : okName s = true) (hs : s ∉ fs.map (·.1)) (hf : f.done = false) :
    (D.seal_ s).2 = 0 ∧ Calm (D.seal_ s).1 block (fs ++ [(s, { f with done := true })]) := by
  have e : D.seal_ s = (D.numbered.setF s { f with done := true }, 0) := by
    unfold DSt.seal_
    rw [h.perr hn hs, h.files, fpos_last hs]
    simp only [hf]
    rw [if_neg (by simp), h.outcome]
  rw [e]
  refine ⟨rfl, h.on, h.block, h.room, h.trs, ?_, ?_⟩
  · show updF s (fun _ => { f with done := true }) D.files = _
    rw [h.files, updF_last hs]
  · show D.used = _
    rw [h.used, total_append, total_append, total_one, total_one]
theorem Calm.delete (h : Calm D block (fs ++ [(s, f)])) (hn : okName s = true) (hs : s ∉ fs.map (·.1)) :
    (D.delete s).2 = 0 ∧ Calm (D.delete s).1 block fs := by
  have e : D.delete s = (D.numbered.drop fs.length f, 0) := by
    unfold DSt.delete
    rw [h.perr hn hs, h.files, fpos_last hs]
    simp only
    rw [h.outcome]
  rw [e]
  refine ⟨rfl, h.on, h.block, h.room, h.trs, ?_, ?_⟩
  · show D.files.eraseIdx fs.length = _
    rw [h.files, List.eraseIdx_append_of_length_le (Nat.le_refl _), Nat.sub_self]
    simp
  · show D.used - _ = _
    rw [h.used, total_append, total_one]
    simp only
    omega
theorem Calm.create (h : Calm D block fs) (hn : okName s = true) (hs : s ∉ fs.map (·.1)) : (D.create s).2 = 0 ∧ Calm (D.create s).1 block (fs ++ [(s, ⟨false, []⟩)]) := by
  have e : D.create s = (D.numbered.made s, 0) := by
    unfold DSt.create
    rw [h.on, hn, h.files, fpos_none hs, if_neg (by simp), if_neg (by simp), if_neg (by simp), h.outcome]
  rw [e]
  refine ⟨rfl, h.on, h.block, h.room, h.trs, ?_, ?_⟩
  · show D.files ++ _ = _
    rw [h.files]
  · show D.used = _
    rw [h.used, total_append, total_one]
    simp
theorem Calm.fresh (h : Calm D block fs) (hn : okName s = true) (hs : s ∉ fs.map (·.1)) : D.fresh s = 0 := by
  have e : D.length s = (0, false, errNo 2) := by
    unfold DSt.length DSt.perr DSt.ferr
    rw [h.on, hn, h.files, fpos_none hs]
    simp
  unfold DSt.fresh
  rw [e]
  rfl
end

theorem nblk_zero (F : Nat) (hF : 0 < F) : nblk F 0 = 0 := by
  unfold nblk
  exact Nat.div_eq_of_lt (by omega)
theorem nblk_mul (F p : Nat) (hF : 0 < F) : nblk F (p * F) = p := by
  unfold nblk
  rw [show p * F + F - 1 = (F - 1) + F * p by rw [Nat.mul_comm]; omega, Nat.add_mul_div_left _ _ hF, Nat.div_eq_of_lt (by omega)]
  omega
theorem nblk_more (F p r : Nat) (h1 : 1 ≤ r) (h2 : r ≤ F) : nblk F (p * F + r) = p + 1 := by
  unfold nblk
  rw [show p * F + r + F - 1 = (r - 1) + F * (p + 1) by rw [Nat.mul_comm, Nat.mul_add]; omega, Nat.add_mul_div_left _ _ (by omega), Nat.div_eq_of_lt (by omega)]
  omega
theorem chunk_app {F k p : Nat} {l r : List R4} (hk : k < p) (h : p * F ≤ l.length) : chunk F k (l ++ r) = chunk F k l := by
  have h2 : k * F + F ≤ p * F := by rw [← Nat.succ_mul]; exact Nat.mul_le_mul_right F hk
  unfold chunk
  rw [List.drop_append_of_le_length (by omega), List.take_append_of_le_length (by rw [List.length_drop]; omega)]
/-- The whole blocks of some records: p of them. -/
def wholes (F p : Nat) (l : List R4) (block : Nat) : List (List Int) := (List.range p).map fun k => encB 2 k (chunk F k l) block
theorem wholes_app {F p : Nat} {l r : List R4} {block : Nat} (h : p * F ≤ l.length) : wholes F p (l ++ r) block = wholes F p l block := by
  unfold wholes
  refine List.map_congr_left fun k hk => ?_
  rw [chunk_app (List.mem_range.1 hk) h]
theorem wholes_succ (F p : Nat) (l : List R4) (block : Nat) : wholes F (p + 1) l block = wholes F p l block ++ [encB 2 p (chunk F p l) block] := by
  unfold wholes
  rw [List.range_succ, List.map_append]
  rfl
theorem wholes_blocks {F p : Nat} {l : List R4} {block : Nat} (hF : block / 32 - 1 = F) (h : nblk F l.length = p) : blocksB 2 l block = wholes F p l block := by
  unfold blocksB wholes
  rw [hF, h]
  rfl
/-- They are the blocks of the records that lie in them. -/
theorem wholes_take {F p : Nat} {l : List R4} {block : Nat} (hF : block / 32 - 1 = F) (h0 : 0 < F) (h : p * F ≤ l.length) : blocksB 2 (l.take (p * F)) block = wholes F p l block := by
  rw [wholes_blocks hF (p := p) (by rw [List.length_take, Nat.min_eq_left h]; exact nblk_mul F p h0)]
  conv => rhs; rw [← List.take_append_drop (p * F) l]
  exact (wholes_app (by rw [List.length_take, Nat.min_eq_left h]; exact Nat.le_refl _)).symm

/-- A writer that is open over a calm disk, and has been given these records. -/
structure WLive (c : Cx) (fs : List (ByteArray × AFile)) (name : ByteArray) (s : RSt) (x : WSt) (recs : List R4) : Prop where
  calm : Calm s.D c.block (fs ++ [(name, ⟨false, wholes c.K x.place recs c.block⟩)])
  hand : s.S.hand = c.K
  parts : s.S.parts = 0
  closed : s.S.closed = false
  name : x.name = name
  kind : x.kind = 2
  dead : x.dead = 0
  done : x.done = false
  count : x.count = recs.length
  list : x.list = recs.drop (x.place * c.K)
  le : x.place * c.K ≤ recs.length
  lt : x.list.length < c.K

section
variable {c : Cx} {fs : List (ByteArray × AFile)} {name : ByteArray} {s : RSt} {x : WSt} {recs : List R4}
theorem WLive.len (h : WLive c fs name s x recs) : x.list.length = recs.length - x.place * c.K := by rw [h.list, List.length_drop]
theorem WLive.place (h : WLive c fs name s x recs) (hK : 0 < c.K) : x.place ≤ recs.length := Nat.le_trans (Nat.le_mul_of_pos_right _ hK) h.le
theorem wholes_len (F p : Nat) (l : List R4) (block : Nat) : (wholes F p l block).length = p := by simp [wholes]

theorem WLive.flush (h : WLive c fs name s x recs) (r : R4) (hfit : fit c.block = c.K) (hK : 0 < c.K) (hn : okName name = true) (hs : name ∉ fs.map (·.1)) (ht : total fs + recs.length < 1099511627776) (hl : x.list.length + 1 = c.K) :
    (wflush c s { x with list := x.list ++ [r] }).1 = 0 ∧ WLive c fs name (wflush c s { x with list := x.list ++ [r] }).2.1 { (wflush c s { x with list := x.list ++ [r] }).2.2 with count := x.count + 1 } (recs ++ [r]) := by
  obtain ⟨f1, f2, f3, f4⟩ := fit_of hfit hK
  have hp := h.place hK
  have hch : chunk c.K x.place (recs ++ [r]) = x.list ++ [r] := by
    unfold chunk
    rw [List.drop_append_of_le_length h.le, ← h.list, List.take_of_length_le (by simp; omega)]
  have hlen := h.len
  obtain ⟨a1, a2⟩ := h.calm.append (bs := encB x.kind x.place (x.list ++ [r]) c.block) hn hs rfl (by rw [encB_len (by simp; omega)]) (by simp only [wholes_len]; omega)
  rw [← h.name] at a1 a2
  have e : wflush c s { x with list := x.list ++ [r] } = (0, { s with D := (s.D.append_ x.name (encB x.kind x.place (x.list ++ [r]) c.block)).1 }, { x with place := x.place + 1, list := [] }) := by
    unfold wflush
    rw [if_pos (by exact a1)]
  rw [e]
  refine ⟨rfl, ?_, h.hand, h.parts, h.closed, h.name, h.kind, h.dead, h.done, ?_, ?_, ?_, ?_⟩
  · show Calm (s.D.append_ x.name (encB x.kind x.place (x.list ++ [r]) c.block)).1 _ _
    rw [← h.name]
    show Calm _ _ (fs ++ [(x.name, { done := false, blocks := wholes c.K (x.place + 1) (recs ++ [r]) c.block })])
    rw [wholes_succ, wholes_app h.le, hch]
    rw [h.kind] at a2 ⊢
    exact a2
  · show x.count + 1 = _
    rw [h.count]; simp
  · show [] = _
    refine (List.drop_of_length_le ?_).symm
    show _ ≤ (x.place + 1) * c.K
    rw [Nat.add_mul]; simp; omega
  · show (x.place + 1) * c.K ≤ _
    have := h.le
    rw [Nat.add_mul]; simp; omega
  · show ([] : List R4).length < _
    simpa using hK
/-- A record more. -/
theorem WLive.put (h : WLive c fs name s x recs) (r : R4) (hfit : fit c.block = c.K) (hK : 0 < c.K) (hn : okName name = true) (hs : name ∉ fs.map (·.1)) (ht : total fs + recs.length < 1099511627776) :
    (wput c s x r).1 = 0 ∧ WLive c fs name (wput c s x r).2.1 (wput c s x r).2.2 (recs ++ [r]) := by
  have hst : stSt x.done x.dead = 0 := by rw [h.done, h.dead]; rfl
  have hlen := h.len
  by_cases hl : x.list.length + 1 = c.K
  · obtain ⟨f1, f2⟩ := h.flush r hfit hK hn hs ht hl
    have e : wput c s x r = (0, (wflush c s { x with list := x.list ++ [r] }).2.1, { (wflush c s { x with list := x.list ++ [r] }).2.2 with count := x.count + 1 }) := by
      unfold wput
      rw [if_neg (by rw [hst]; simp), if_neg (by simp [hl]), if_pos f1]
    rw [e]
    exact ⟨rfl, f2⟩
  · have e : wput c s x r = (0, s, { x with list := x.list ++ [r], count := x.count + 1 }) := by
      unfold wput
      rw [if_neg (by rw [hst]; simp), if_pos hl]
    rw [e]
    refine ⟨rfl, ?_, h.hand, h.parts, h.closed, h.name, h.kind, h.dead, h.done, ?_, ?_, ?_, ?_⟩
    · show Calm s.D _ (fs ++ [(name, { done := false, blocks := wholes c.K x.place (recs ++ [r]) c.block })])
      rw [wholes_app h.le]
      exact h.calm
    · show x.count + 1 = _
      rw [h.count]; simp
    · show x.list ++ [r] = (recs ++ [r]).drop (x.place * c.K)
      rw [List.drop_append_of_le_length h.le, ← h.list]
    · show x.place * c.K ≤ (recs ++ [r]).length
      have := h.le
      simp; omega
    · have := h.lt
      show (x.list ++ [r]).length < _
      simp; omega
theorem give_all (S : PSt) (K : Nat) (h1 : S.hand = K) (h2 : S.closed = false) : S.give K = { S with hand := 0 } := by
  have hg : S.gives K = 0 := by
    unfold PSt.gives
    rw [h2, if_neg (by simp), if_neg (by omega), if_neg (by omega)]
  unfold PSt.give
  rw [if_pos hg, h1, Int.sub_self]
/-- What a purse and a disk are when the writer is closed. -/
structure Shut (c : Cx) (fs : List (ByteArray × AFile)) (s : RSt) : Prop where
  calm : Calm s.D c.block fs
  hand : s.S.hand = 0
  parts : s.S.parts = 0
/-- Closed. -/
theorem WLive.close (h : WLive c fs name s x recs) (hfit : fit c.block = c.K) (hK : 0 < c.K) (hn : okName name = true) (hs : name ∉ fs.map (·.1)) (ht : total fs + recs.length < 1099511627776) :
    (wclose c s x).1 = 0 ∧ Shut c (fs ++ [(name, ⟨true, blocksB 2 recs c.block⟩)]) (wclose c s x).2.1 := by
  obtain ⟨f1, f2, f3, f4⟩ := fit_of hfit hK
  have hF : c.block / 32 - 1 = c.K := by omega
  have hlen := h.len
  have hp := h.place hK
  have key : ∃ D' x', wclose1 c s x = (0, { s with D := D' }, x') ∧ x'.name = name ∧ Calm D' c.block (fs ++ [(name, ⟨false, blocksB 2 recs c.block⟩)]) := by
    by_cases hl : x.list = []
    · refine ⟨s.D, x, ?_, h.name, ?_⟩
      · unfold wclose1
        rw [if_neg (by simp [hl]), h.dead]
      · have h0 : recs.length = x.place * c.K := by
          rw [hl] at hlen
          have := h.le
          simp at hlen; omega
        rw [wholes_blocks hF (p := x.place) (by rw [h0]; exact nblk_mul _ _ hK)]
        exact h.calm
    · have h1 : 1 ≤ x.list.length := List.length_pos_iff.2 hl
      have h2 := h.lt
      have hch : chunk c.K x.place recs = x.list := by
        unfold chunk
        rw [← h.list, List.take_of_length_le (by omega)]
      obtain ⟨a1, a2⟩ := h.calm.append (bs := encB x.kind x.place x.list c.block) hn hs rfl (by rw [encB_len (by omega)]) (by simp only [wholes_len]; omega)
      refine ⟨(s.D.append_ x.name (encB x.kind x.place x.list c.block)).1, { x with place := x.place + 1, list := [] }, ?_, h.name, ?_⟩
      · unfold wclose1 wflush
        rw [if_pos ⟨h.dead, hl⟩, if_pos (by rw [h.name]; exact a1)]
      · rw [wholes_blocks hF (p := x.place + 1) (by rw [show recs.length = x.place * c.K + x.list.length by have := h.le; omega]; exact nblk_more _ _ _ h1 (by omega)), wholes_succ, hch, h.name]
        rw [h.kind] at a2 ⊢
        exact a2
  obtain ⟨D', x', e1, e2, e3⟩ := key
  obtain ⟨b1, b2⟩ := e3.sealed hn hs rfl
  have e : wclose c s x = (0, wend c { s with D := (D'.seal_ name).1 } x') := by
    unfold wclose wclose2
    rw [if_neg (by rw [h.done]; simp), e1]
    simp only [if_true, e2, b1]
  rw [e]
  refine ⟨rfl, ?_, ?_, ?_⟩
  · exact b2
  · show (s.S.give c.K).hand = 0
    rw [give_all _ _ h.hand h.closed]
  · show (s.S.give c.K).parts = 0
    rw [give_all _ _ h.hand h.closed]
    exact h.parts
/-- Dropped. -/
theorem WLive.drop (h : WLive c fs name s x recs) (hn : okName name = true) (hs : name ∉ fs.map (·.1)) :
    (wdrop c s x).1 = 0 ∧ Shut c fs (wdrop c s x).2.1 := by
  obtain ⟨b1, b2⟩ := h.calm.delete hn hs
  have e : wdrop c s x = (0, { (wend c s x).1 with D := (s.D.delete name).1 }, (wend c s x).2) := by
    unfold wdrop
    rw [if_neg (by rw [h.done]; simp), h.name]
    show ((s.D.delete name).2, _, _) = _
    rw [b1]
    rfl
  rw [e]
  refine ⟨rfl, b2, ?_, ?_⟩
  · show (s.S.give c.K).hand = 0
    rw [give_all _ _ h.hand h.closed]
  · show (s.S.give c.K).parts = 0
    rw [give_all _ _ h.hand h.closed]
    exact h.parts
end
end Go.Proofs.YtadipinnbehhhaaGreatDoor
