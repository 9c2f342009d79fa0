/- The numbers of the mutex's functions and types in this seat's program, and that the program holds them. The purse: what its methods do. The purse's calls that lock: Take, Give, Used, Free, Peak, New. The desk: a disk and a purse together; what a stream is. The desk: a tape is begun. A stream over a desk: its state, its end. A writer: how many records; it is given up. Frames: the rooms and writers as states; what stays beside them. Encode: records as a block: the walk. Writers as states: what a writer is in memory, with the records that it holds; flush. A writer: flush: the records in memory become a block of the file. A writer: Put. A writer: Close, Drop, Count; a tape is begun. Data in memory: bytes, rows of bytes, files, a disk's state: what the references hold. -/
import Derived.Test.YtadipinnbehhhaaGreatDoorProg
import Derived.Conc.MuLone
import Derived.KernelRfl
import Derived.Deep.RegionHeld3
import Derived.StillTailTactics
import Derived.Deep.RegionWith
import Derived.Deep.Cut
import Derived.Deep.CutRange
import Derived.Defers
import Derived.Test.YtadipinnbehhhaaGreatDoorCubesRowAA
import Derived.Test.YtadipinnbehhhaaGreatDoorCubesRowAB
namespace Go.Proofs.YtadipinnbehhhaaGreatDoor
abbrev muLink : Go.Conc.Locks.MuLink := { lock := 130, unlock := 131, ilock := 190, iunlock := 191, lockSlow := 232, unlockSlow := 235, disable := 228, enable := 230, acquire := 231, relMerge := 233, cas32 := 229, add32 := 234, tMutex := 240, tIMutex := 238, tPMutex := 216, tPIMutex := 347, tPI32 := 349, tUP := 351, tNoCopy := 235, tU32 := 236 }
theorem muLib : Go.Conc.Locks.MuLib Tryz.prog muLink :=
  ⟨Tryz.func130, Tryz.func131, Tryz.func190, Tryz.func191, Tryz.func228, Tryz.func230, Tryz.func231, Tryz.func233, Tryz.func229, Tryz.func234,
   Tryz.underlying238, Tryz.runUnderlying238, Tryz.sizeOf238, Tryz.isAgg238, Tryz.zeroValue238,
   Tryz.underlying240, Tryz.runUnderlying240, Tryz.sizeOf240, Tryz.isAgg240, Tryz.zeroValue240,
   Tryz.underlying216, Tryz.runUnderlying216, Tryz.sizeOf216, Tryz.isAgg216, Tryz.zeroValue216,
   Tryz.underlying347, Tryz.runUnderlying347, Tryz.sizeOf347, Tryz.isAgg347, Tryz.zeroValue347,
   Tryz.underlying349, Tryz.runUnderlying349, Tryz.sizeOf349, Tryz.isAgg349, Tryz.zeroValue349,
   Tryz.underlying351, Tryz.runUnderlying351, Tryz.sizeOf351, Tryz.isAgg351, Tryz.zeroValue351,
   Tryz.underlying235, Tryz.runUnderlying235, Tryz.sizeOf235, Tryz.isAgg235, Tryz.zeroValue235,
   Tryz.underlying21, Tryz.runUnderlying21, Tryz.sizeOf21, Tryz.isAgg21, Tryz.zeroValue21, (by kernel_rfl)⟩
end Go.Proofs.YtadipinnbehhhaaGreatDoor
namespace Go.Proofs.YtadipinnbehhhaaGreatDoor
open Go.RowKit Go.MuLone Go.Conc.Locks

structure PSt where
  limit : Int
  hand : Int
  parts : Int
  opn : Int
  closed : Bool
  peak : Int
structure PSt.Ok (s : PSt) : Prop where
  h0 : 0 ≤ s.hand
  p0 : 0 ≤ s.parts
  le : s.hand + s.parts ≤ s.limit
  lim : s.limit ≤ 9223372036854775807
  o0 : 0 ≤ s.opn
  o1 : s.opn ≤ 9223372036854775806
  k0 : 0 ≤ s.peak
  k1 : s.peak ≤ s.limit
def PSt.cells (s : PSt) (lk : Nat) (of : Option Nat) : Array Value :=
  #[.pointer (some ⟨lk, 0, none⟩), .int .i64 s.limit, .int .i64 s.hand, .int .i64 s.parts, .int .i64 s.opn, .bool s.closed, .int .i64 s.peak, .pointer (of.map fun q => ⟨q, 0, none⟩)]
def LockAt (w : World) (lk : Nat) (n : Int) : Prop := Blk w lk 240 #[.int .i32 n, .int .u32 0]
def PBlk (w : World) (p lk : Nat) (of : Option Nat) (s : PSt) : Prop := Blk w p 222 (s.cells lk of)
set_option maxHeartbeats 400000 in
theorem out_any (p lk : Nat) (of : Option Nat) (s : PSt) (w : World) (hb : PBlk w p lk of s) (hs : s.Ok) :
    Calls Tryz.prog 132 #[.pointer (some ⟨p, 0, none⟩)] w fun e w' => e = .returned (.int .i64 (s.hand + s.parts)) ∧ Drawn w w' := by
  have c2 : w.cell? ⟨p, 2, none⟩ = some (.int .i64 s.hand) := hb.at_ 2
  have c3 : w.cell? ⟨p, 3, none⟩ = some (.int .i64 s.parts) := hb.at_ 3
  obtain ⟨h0, p0, le, lim, _, _, _, _⟩ := hs
  clear hb
  go_enter Tryz.func132, Tryz.ntmps132
  go_wp2
  go_quiet (fail)
  go_wp2
  go_ret
  exact ⟨rfl, ⟨⟨_, rfl⟩⟩⟩
theorem quiet_drawn {f : FuncId} {args : Array Value} {w : World} {n : Nat} {v : Value} (h : Calls Tryz.prog f args (w.drewN n) fun e w' => e = .returned v ∧ Drawn (w.drewN n) w') :
    Calls Tryz.prog f args (w.drewN n) fun e w'' => e = .returned v ∧ ∃ m, w'' = w.drewN m :=
  Calls.quiet_of (h.mono fun _ _ ⟨he, hd⟩ => ⟨he, hd.out⟩)
set_option maxHeartbeats 400000 in
theorem free_any (p lk : Nat) (of : Option Nat) (s : PSt) (w : World) (hb : PBlk w p lk of s) (hs : s.Ok) :
    Calls Tryz.prog 183 #[.pointer (some ⟨p, 0, none⟩)] w fun e w' => e = .returned (.int .i64 (s.limit - (s.hand + s.parts))) ∧ Drawn w w' := by
  have c1 : w.cell? ⟨p, 1, none⟩ = some (.int .i64 s.limit) := hb.at_ 1
  obtain ⟨h0, p0, le, lim, _, _, _, _⟩ := id hs
  have s0 : 0 ≤ s.hand + s.parts := by omega
  go_enter Tryz.func183, Tryz.ntmps183
  go_wp2
  go_quiet ((go_at_call 132; exact quiet_drawn (out_any p lk of s _ (Blk.drewN hb _) hs)))
  go_wp2
  go_ret
  exact ⟨rfl, ⟨⟨_, rfl⟩⟩⟩
def PSt.asked (s : PSt) (n : Int) : Int := if s.closed then 6 else if n < 0 then 1 else if s.limit - (s.hand + s.parts) < n then 2 else 0
set_option maxHeartbeats 400000 in
theorem asked_any (p lk : Nat) (of : Option Nat) (s : PSt) (n : Int) (w : World) (hb : PBlk w p lk of s) (hs : s.Ok) :
    Calls Tryz.prog 184 #[.pointer (some ⟨p, 0, none⟩), .int .i64 n] w fun e w' => e = .returned (.int .i64 (s.asked n)) ∧ Drawn w w' := by
  have c5 : w.cell? ⟨p, 5, none⟩ = some (.bool s.closed) := hb.at_ 5
  by_cases q : s.closed = true
  · rw [q] at c5
    go_enter Tryz.func184, Tryz.ntmps184
    go_wp2
    go_ret
    exact ⟨by simp [PSt.asked, q], Drawn.refl _⟩
  have q' : s.closed = false := by simpa using q
  rw [q'] at c5
  by_cases q1 : n < 0
  · go_enter Tryz.func184, Tryz.ntmps184
    go_wp2
    go_ret
    exact ⟨by simp [PSt.asked, q', q1], Drawn.refl _⟩
  by_cases q2 : s.limit - (s.hand + s.parts) < n
  · go_enter Tryz.func184, Tryz.ntmps184
    go_wp2_with (go_at_call 183; refine (free_any p lk of s _ hb hs).mono ?_; rintro e w' ⟨rfl, hd⟩)
    go_ret
    exact ⟨by simp [PSt.asked, q', q2]; omega, hd⟩
  · go_enter Tryz.func184, Tryz.ntmps184
    go_wp2_with (go_at_call 183; refine (free_any p lk of s _ hb hs).mono ?_; rintro e w' ⟨rfl, hd⟩)
    go_ret
    exact ⟨by simp [PSt.asked, q']; omega, hd⟩
def PSt.risen (s : PSt) : PSt := { s with peak := max s.peak (s.hand + s.parts) }
theorem load_law {a : Addr} {x : Int} {w : World} (hc : w.cell? a = some (.int .i64 x)) :
    (callFunc 173 #[.pointer (some a)]).run Tryz.prog w = .ok (.value (.int .i64 x)) w :=
  run_call_load (P := Tryz.prog) Tryz.func173 (by kernel_rfl) (by kernel_rfl) (by kernel_rfl) .i64 (by kernel_rfl) hc
theorem store_law {a : Addr} {y : Int} {u : Value} {w : World} (hc : w.cell? a = some u) (hz : w.frozen? a = false) :
    (callFunc 261 #[.pointer (some a), .int .i64 y]).run Tryz.prog w = .ok (.value (.tuple #[])) (w.setCell a (.int .i64 y)) :=
  run_call_store (P := Tryz.prog) Tryz.func261 (by kernel_rfl) (by kernel_rfl) (by kernel_rfl) (by kernel_rfl) hc hz
set_option maxHeartbeats 400000 in
theorem load_any (b o : Nat) (x : Int) (w : World) (hc : w.cell? ⟨b, o, none⟩ = some (.int .i64 x)) :
    Calls Tryz.prog 113 #[.pointer (some ⟨b, o, none⟩)] w fun e w' => e = .returned (.int .i64 x) ∧ w' = w := by
  have hl := load_law hc
  go_enter Tryz.func113, Tryz.ntmps113
  go_wp2
  go_ret
  exact ⟨rfl, rfl⟩
set_option maxHeartbeats 400000 in
theorem store_any (b o : Nat) (y : Int) (u : Value) (w : World) (hc : w.cell? ⟨b, o, none⟩ = some u) (hz : w.frozen? ⟨b, o, none⟩ = false) :
    Calls Tryz.prog 223 #[.pointer (some ⟨b, o, none⟩), .int .i64 y] w fun e w' => e = .returned (.tuple #[]) ∧ w' = w.setCell ⟨b, o, none⟩ (.int .i64 y) := by
  have hl := store_law (y := y) hc hz
  go_enter Tryz.func223, Tryz.ntmps223
  go_wp2
  go_end0
  exact ⟨rfl, rfl⟩
set_option maxHeartbeats 400000 in
theorem risen_any (p lk : Nat) (of : Option Nat) (s : PSt) (w : World) (hb : PBlk w p lk of s) (hs : s.Ok) :
    Calls Tryz.prog 185 #[.pointer (some ⟨p, 0, none⟩)] w fun e w' => e = .returned (.tuple #[]) ∧ ∃ n, w' = (w.drewN n).setCell ⟨p, 6, none⟩ (.int .i64 s.risen.peak) := by
  have c6 : w.cell? ⟨p, 6, none⟩ = some (.int .i64 s.peak) := hb.at_ 6
  have f6 : w.frozen? ⟨p, 6, none⟩ = false := hb.fr 6
  obtain ⟨h0, p0, le, lim, _, _, k0, k1⟩ := id hs
  have s0 : 0 ≤ s.hand + s.parts := by omega
  by_cases q : s.peak < s.hand + s.parts
  all_goals
    go_enter Tryz.func185, Tryz.ntmps185
    go_region_with (first
      | (go_at_call 113; refine (load_any p 6 s.peak _ (by exact c6)).mono ?_; rintro e w' ⟨rfl, rfl⟩)
      | (go_at_call 132; refine (out_any p lk of s _ (by exact hb) hs).mono ?_; rintro e wx ⟨rfl, hd⟩; obtain ⟨n, rfl⟩ := hd.out)
      | (go_at_call 223; refine (store_any p 6 _ _ _ (by exact c6) (by exact f6)).mono ?_; rintro e wx ⟨rfl, rfl⟩))
    go_wp2
    go_end0
  · refine ⟨rfl, 1 + n, ?_⟩
    rw [show s.risen.peak = s.hand + s.parts from by simp only [PSt.risen]; omega]
  · refine ⟨rfl, 1 + n, ?_⟩
    rw [show s.risen.peak = s.peak from by simp only [PSt.risen]; omega]
end Go.Proofs.YtadipinnbehhhaaGreatDoor
namespace Go.Proofs.YtadipinnbehhhaaGreatDoor
open Go.RowKit Go.MuLone Go.Conc.Locks

structure PurseAt (w : World) (p lk : Nat) (of : Option Nat) (s : PSt) : Prop where
  blk : PBlk w p lk of s
  lock : LockAt w lk 0
  ok : s.Ok
def One (a : Nat) : Nat → Prop := fun b => b = a
def PF (p lk : Nat) : Nat → Prop := fun b => b = p ∨ b = lk
theorem One.pf {p lk : Nat} {w w' : World} (h : Keep (One lk) w w') : Keep (PF p lk) w w' := h.mono fun _ _ h => .inr h
theorem lock_any (lk : Nat) (w : World) (h : LockAt w lk 0) :
    Calls Tryz.prog 130 #[.pointer (some ⟨lk, 0, none⟩)] w fun e w' => e = .returned (.tuple #[]) ∧ LockAt w' lk 1 ∧ Keep (One lk) w w' :=
  (lock_free muLib ⟨lk, 0, none⟩ w (h.at_ 0) (h.fr 0)).mono fun _ _ ⟨he, hw⟩ => ⟨he, by subst hw; exact Blk.set_ h 0 _, by subst hw; exact (Keep.refl (One lk) w).setCell (p := ⟨lk, 0, none⟩) (fun _ => rfl) _⟩
theorem unlock_later (lk : Nat) (u : FrameMode) (w : World) (h : LockAt w lk 1) :
    CallsD Tryz.prog 131 #[.pointer (some ⟨lk, 0, none⟩)] u w fun e u' w' => u' = u ∧ e = .returned (.tuple #[]) ∧ LockAt w' lk 0 ∧ Keep (One lk) w w' :=
  (unlock_deferred muLib ⟨lk, 0, none⟩ u w (h.at_ 0) (h.fr 0)).mono fun _ _ _ ⟨hu, he, hw⟩ => ⟨hu, he, by subst hw; exact Blk.set_ h 0 _, by subst hw; exact (Keep.refl (One lk) w).setCell (p := ⟨lk, 0, none⟩) (fun _ => rfl) _⟩
theorem PurseAt.ne {w : World} {p lk : Nat} {of : Option Nat} {s : PSt} (h : PurseAt w p lk of s) : p ≠ lk := Blk.ne_ h.blk h.lock (by decide)
theorem PurseAt.keep {w w' : World} {p lk : Nat} {of : Option Nat} {s : PSt} {F : Nat → Prop} (h : PurseAt w p lk of s) (k : Keep F w w') (h1 : ¬ F p) (h2 : ¬ F lk) : PurseAt w' p lk of s :=
  ⟨Blk.keep h.blk k h1, Blk.keep h.lock k h2, h.ok⟩
def PSt.took (s : PSt) (n : Int) : PSt := PSt.risen { s with hand := s.hand + n }
def PSt.take (s : PSt) (n : Int) : PSt := if s.asked n = 0 then s.took n else s
def PSt.gives (s : PSt) (n : Int) : Int := if s.closed then 6 else if n < 0 then 1 else if s.hand < n then 20 else 0
def PSt.give (s : PSt) (n : Int) : PSt := if s.gives n = 0 then { s with hand := s.hand - n } else s
theorem asked_zero {s : PSt} {n : Int} (h : s.asked n = 0) : s.closed = false ∧ 0 ≤ n ∧ n ≤ s.limit - (s.hand + s.parts) := by
  unfold PSt.asked at h
  split at h
  · omega
  · split at h
    · omega
    · split at h
      · omega
      · rename_i h1 h2 h3
        exact ⟨by simpa using h1, by omega, by omega⟩
theorem gives_zero {s : PSt} {n : Int} (h : s.gives n = 0) : s.closed = false ∧ 0 ≤ n ∧ n ≤ s.hand := by
  unfold PSt.gives at h
  split at h
  · omega
  · split at h
    · omega
    · split at h
      · omega
      · rename_i h1 h2 h3
        exact ⟨by simpa using h1, by omega, by omega⟩
theorem took_ok {s : PSt} {n : Int} (hs : s.Ok) (h : s.asked n = 0) : PSt.Ok { s with hand := s.hand + n } ∧ (s.took n).Ok := by
  obtain ⟨_, h2, h3⟩ := asked_zero h
  obtain ⟨i0, i1, i2, i3, i4, i5, i6, i7⟩ := hs
  constructor
  · constructor <;> simp only <;> omega
  · constructor <;> simp only [PSt.took, PSt.risen] <;> omega
theorem give_ok {s : PSt} {n : Int} (hs : s.Ok) : (s.give n).Ok := by
  unfold PSt.give
  split
  · rename_i h
    obtain ⟨_, h2, h3⟩ := gives_zero h
    obtain ⟨i0, i1, i2, i3, i4, i5, i6, i7⟩ := hs
    constructor <;> simp only <;> omega
  · exact hs
set_option maxHeartbeats 800000 in
theorem take_any (p lk : Nat) (of : Option Nat) (s : PSt) (n : Int) (w : World) (h : PurseAt w p lk of s) :
    Calls Tryz.prog 127 #[.pointer (some ⟨p, 0, none⟩), .int .i64 n] w fun e w' =>
      e = .returned (.int .i64 (s.asked n)) ∧ PurseAt w' p lk of (s.take n) ∧ Keep (PF p lk) w w' := by
  have hne := h.ne
  have hne' : lk ≠ p := Ne.symm hne
  obtain ⟨hb, hl, hs⟩ := h
  have c0 : w.cell? ⟨p, 0, none⟩ = some (.pointer (some ⟨lk, 0, none⟩)) := hb.at_ 0
  by_cases q : s.asked n = 0
  · have q' : (s.asked n != 0) = false := by simp [q]
    obtain ⟨hs1, hs2⟩ := took_ok hs q
    obtain ⟨q1, q2, q3⟩ := asked_zero q
    obtain ⟨i0, i1, i2, i3, i4, i5, i6, i7⟩ := id hs
    have HQ := Hid.intro_ q
    clear q q1
    go_enter_defers Tryz.func127, Tryz.ntmps127
    go_wp2_with (first
      | (go_at_call 130; refine (lock_any lk _ hl).mono ?_; rintro e w1 ⟨rfl, hl1, hk1⟩
         have hb1 : PBlk w1 p lk of s := Blk.keep hb hk1 hne
         have c01 : w1.cell? ⟨p, 0, none⟩ = some (.pointer (some ⟨lk, 0, none⟩)) := hb1.at_ 0
         have c21 : w1.cell? ⟨p, 2, none⟩ = some (.int .i64 s.hand) := hb1.at_ 2
         have f21 : w1.frozen? ⟨p, 2, none⟩ = false := hb1.fr 2)
      | (go_at_call 184; refine (asked_any p lk of s n _ hb1 hs).mono ?_; rintro e w2 ⟨rfl, hd⟩; obtain ⟨m, rfl⟩ := hd.out
         have hb3 : PBlk ((w1.drewN m).setCell ⟨p, 2, none⟩ (.int .i64 (s.hand + n))) p lk of { s with hand := s.hand + n } := Blk.set_ (Blk.drewN hb1 m) 2 _)
      | (go_at_call 185; refine (risen_any p lk of { s with hand := s.hand + n } _ (by exact hb3) hs1).mono ?_; rintro e w3 ⟨rfl, k, rfl⟩))
    refine leaves_cons (f := 131) (args := #[.pointer (some ⟨lk, 0, none⟩)]) (by simp) (by simp [go_sem]) ?_
    refine (unlock_later lk .returning _ ?_).mono ?_
    · exact Blk.far (Blk.drewN (Blk.far (Blk.drewN hl1 m) (by exact hne') _) k) (by exact hne') _
    rintro e u' w4 ⟨rfl, rfl, hl4, hk4⟩
    refine ⟨_, results_tmp rfl _ _ _, ?_, ⟨?_, hl4, ?_⟩, ?_⟩
    · rw [HQ.out]; rfl
    · rw [show s.take n = s.took n from if_pos HQ.out]
      exact Blk.keep (Blk.set_ (Blk.drewN hb3 k) 6 _) hk4 hne
    · rw [show s.take n = s.took n from if_pos HQ.out]; exact hs2
    · exact (((((One.pf hk1).drewN m).setCell (p := ⟨p, 2, none⟩) (fun _ => .inl rfl) _).drewN k).setCell (p := ⟨p, 6, none⟩) (fun _ => .inl rfl) _).then_ (One.pf hk4)
  · have q' : (s.asked n != 0) = true := by simp [q]
    have HQ := Hid.intro_ q
    clear q
    go_enter_defers Tryz.func127, Tryz.ntmps127
    go_wp2_with (first
      | (go_at_call 130; refine (lock_any lk _ hl).mono ?_; rintro e w1 ⟨rfl, hl1, hk1⟩
         have hb1 : PBlk w1 p lk of s := Blk.keep hb hk1 hne
         have c01 : w1.cell? ⟨p, 0, none⟩ = some (.pointer (some ⟨lk, 0, none⟩)) := hb1.at_ 0)
      | (go_at_call 184; refine (asked_any p lk of s n _ hb1 hs).mono ?_; rintro e w2 ⟨rfl, hd⟩; obtain ⟨m, rfl⟩ := hd.out))
    refine leaves_cons (f := 131) (args := #[.pointer (some ⟨lk, 0, none⟩)]) (by simp) (by simp [go_sem]) ?_
    refine (unlock_later lk .returning _ ?_).mono ?_
    · exact Blk.drewN hl1 m
    rintro e u' w4 ⟨rfl, rfl, hl4, hk4⟩
    refine ⟨_, results_tmp rfl _ _ _, rfl, ⟨?_, hl4, ?_⟩, ?_⟩
    · rw [show s.take n = s from if_neg HQ.out]
      exact Blk.keep (Blk.drewN hb1 m) hk4 hne
    · rw [show s.take n = s from if_neg HQ.out]; exact hs
    · exact ((One.pf hk1).drewN m).then_ (One.pf hk4)
set_option maxHeartbeats 800000 in
theorem give_any (p lk : Nat) (of : Option Nat) (s : PSt) (n : Int) (w : World) (h : PurseAt w p lk of s) :
    Calls Tryz.prog 129 #[.pointer (some ⟨p, 0, none⟩), .int .i64 n] w fun e w' =>
      e = .returned (.int .i64 (s.gives n)) ∧ PurseAt w' p lk of (s.give n) ∧ Keep (PF p lk) w w' := by
  have hne := h.ne
  have hne' : lk ≠ p := Ne.symm hne
  have hgo := give_ok (n := n) h.ok
  obtain ⟨hb, hl, hs⟩ := h
  have c0 : w.cell? ⟨p, 0, none⟩ = some (.pointer (some ⟨lk, 0, none⟩)) := hb.at_ 0
  obtain ⟨i0, i1, i2, i3, i4, i5, i6, i7⟩ := id hs
  by_cases q : s.gives n = 0
  · obtain ⟨q1, q2, q3⟩ := gives_zero q
    have HQ := Hid.intro_ q
    clear q
    go_enter_defers Tryz.func129, Tryz.ntmps129
    go_wp2_with (first
      | (go_at_call 130; refine (lock_any lk _ hl).mono ?_; rintro e w1 ⟨rfl, hl1, hk1⟩
         have hb1 : PBlk w1 p lk of s := Blk.keep hb hk1 hne
         have c01 : w1.cell? ⟨p, 0, none⟩ = some (.pointer (some ⟨lk, 0, none⟩)) := hb1.at_ 0
         have c51 : w1.cell? ⟨p, 5, none⟩ = some (.bool false) := by rw [← q1]; exact hb1.at_ 5
         have c21 : w1.cell? ⟨p, 2, none⟩ = some (.int .i64 s.hand) := hb1.at_ 2
         have f21 : w1.frozen? ⟨p, 2, none⟩ = false := hb1.fr 2
         have hb3 : PBlk (w1.setCell ⟨p, 2, none⟩ (.int .i64 (s.hand - n))) p lk of { s with hand := s.hand - n } := Blk.set_ hb1 2 _))
    refine leaves_cons (f := 131) (args := #[.pointer (some ⟨lk, 0, none⟩)]) (by simp) (by simp [go_sem]) ?_
    refine (unlock_later lk .returning _ ?_).mono ?_
    · exact Blk.far hl1 (by exact hne') _
    rintro e u' w4 ⟨rfl, rfl, hl4, hk4⟩
    refine ⟨_, results_tmp rfl _ _ _, ?_, ⟨?_, hl4, hgo⟩, ?_⟩
    · rw [HQ.out]; rfl
    · rw [show s.give n = { s with hand := s.hand - n } from if_pos HQ.out]
      exact Blk.keep hb3 hk4 hne
    · exact ((One.pf hk1).setCell (p := ⟨p, 2, none⟩) (fun _ => .inl rfl) _).then_ (One.pf hk4)
  · have hg : s.give n = s := if_neg q
    rw [hg]
    clear hg hgo
    have key : ∃ v : Int, s.gives n = v ∧ ((s.closed = true ∧ v = 6) ∨ (s.closed = false ∧ n < 0 ∧ v = 1) ∨ (s.closed = false ∧ 0 ≤ n ∧ s.hand < n ∧ v = 20)) := by
      refine ⟨_, rfl, ?_⟩
      unfold PSt.gives at q ⊢
      cases hc : s.closed <;> simp [hc] at q ⊢
      split at q <;> omega
    obtain ⟨v, hv, hcase⟩ := key
    rw [hv]
    clear q hv
    rcases hcase with ⟨q1, q2⟩ | ⟨q1, q2, q3⟩ | ⟨q1, q2, q3, q4⟩
    · subst q2
      go_enter_defers Tryz.func129, Tryz.ntmps129
      go_wp2_with (first
        | (go_at_call 130; refine (lock_any lk _ hl).mono ?_; rintro e w1 ⟨rfl, hl1, hk1⟩
           have hb1 : PBlk w1 p lk of s := Blk.keep hb hk1 hne
           have c01 : w1.cell? ⟨p, 0, none⟩ = some (.pointer (some ⟨lk, 0, none⟩)) := hb1.at_ 0
           have c51 : w1.cell? ⟨p, 5, none⟩ = some (.bool true) := by rw [← q1]; exact hb1.at_ 5))
      refine leaves_cons (f := 131) (args := #[.pointer (some ⟨lk, 0, none⟩)]) (by simp) (by simp [go_sem]) ?_
      refine (unlock_later lk .returning _ (by exact hl1)).mono ?_
      rintro e u' w4 ⟨rfl, rfl, hl4, hk4⟩
      exact ⟨_, results_tmp rfl _ _ _, rfl, ⟨Blk.keep hb1 hk4 hne, hl4, hs⟩, (One.pf hk1).then_ (One.pf hk4)⟩
    · subst q3
      go_enter_defers Tryz.func129, Tryz.ntmps129
      go_wp2_with (first
        | (go_at_call 130; refine (lock_any lk _ hl).mono ?_; rintro e w1 ⟨rfl, hl1, hk1⟩
           have hb1 : PBlk w1 p lk of s := Blk.keep hb hk1 hne
           have c01 : w1.cell? ⟨p, 0, none⟩ = some (.pointer (some ⟨lk, 0, none⟩)) := hb1.at_ 0
           have c51 : w1.cell? ⟨p, 5, none⟩ = some (.bool false) := by rw [← q1]; exact hb1.at_ 5))
      refine leaves_cons (f := 131) (args := #[.pointer (some ⟨lk, 0, none⟩)]) (by simp) (by simp [go_sem]) ?_
      refine (unlock_later lk .returning _ (by exact hl1)).mono ?_
      rintro e u' w4 ⟨rfl, rfl, hl4, hk4⟩
      exact ⟨_, results_tmp rfl _ _ _, rfl, ⟨Blk.keep hb1 hk4 hne, hl4, hs⟩, (One.pf hk1).then_ (One.pf hk4)⟩
    · subst q4
      go_enter_defers Tryz.func129, Tryz.ntmps129
      go_wp2_with (first
        | (go_at_call 130; refine (lock_any lk _ hl).mono ?_; rintro e w1 ⟨rfl, hl1, hk1⟩
           have hb1 : PBlk w1 p lk of s := Blk.keep hb hk1 hne
           have c01 : w1.cell? ⟨p, 0, none⟩ = some (.pointer (some ⟨lk, 0, none⟩)) := hb1.at_ 0
           have c21 : w1.cell? ⟨p, 2, none⟩ = some (.int .i64 s.hand) := hb1.at_ 2
           have c51 : w1.cell? ⟨p, 5, none⟩ = some (.bool false) := by rw [← q1]; exact hb1.at_ 5))
      refine leaves_cons (f := 131) (args := #[.pointer (some ⟨lk, 0, none⟩)]) (by simp) (by simp [go_sem]) ?_
      refine (unlock_later lk .returning _ (by exact hl1)).mono ?_
      rintro e u' w4 ⟨rfl, rfl, hl4, hk4⟩
      exact ⟨_, results_tmp rfl _ _ _, rfl, ⟨Blk.keep hb1 hk4 hne, hl4, hs⟩, (One.pf hk1).then_ (One.pf hk4)⟩
set_option maxHeartbeats 800000 in
theorem used_any (p lk : Nat) (of : Option Nat) (s : PSt) (w : World) (h : PurseAt w p lk of s) :
    Calls Tryz.prog 64 #[.pointer (some ⟨p, 0, none⟩)] w fun e w' =>
      e = .returned (.int .i64 (s.hand + s.parts)) ∧ PurseAt w' p lk of s ∧ Keep (PF p lk) w w' := by
  have hne := h.ne
  obtain ⟨hb, hl, hs⟩ := h
  have c0 : w.cell? ⟨p, 0, none⟩ = some (.pointer (some ⟨lk, 0, none⟩)) := hb.at_ 0
  go_enter_defers Tryz.func64, Tryz.ntmps64
  go_wp2_with (first
    | (go_at_call 130; refine (lock_any lk _ hl).mono ?_; rintro e w1 ⟨rfl, hl1, hk1⟩
       have hb1 : PBlk w1 p lk of s := Blk.keep hb hk1 hne
       have c01 : w1.cell? ⟨p, 0, none⟩ = some (.pointer (some ⟨lk, 0, none⟩)) := hb1.at_ 0)
    | (go_at_call 132; refine (out_any p lk of s _ hb1 hs).mono ?_; rintro e w2 ⟨rfl, hd⟩; obtain ⟨m, rfl⟩ := hd.out))
  refine leaves_cons (f := 131) (args := #[.pointer (some ⟨lk, 0, none⟩)]) (by simp) (by simp [go_sem]) ?_
  refine (unlock_later lk .returning _ (by exact hl1)).mono ?_
  rintro e u' w4 ⟨rfl, rfl, hl4, hk4⟩
  exact ⟨_, results_tmp rfl _ _ _, rfl, ⟨Blk.keep (Blk.drewN hb1 m) hk4 hne, hl4, hs⟩, ((One.pf hk1).drewN m).then_ (One.pf hk4)⟩
def PSt.frees (s : PSt) : Int := if s.closed then 0 else s.limit - (s.hand + s.parts)
set_option maxHeartbeats 800000 in
theorem frees_any (p lk : Nat) (of : Option Nat) (s : PSt) (w : World) (h : PurseAt w p lk of s) :
    Calls Tryz.prog 126 #[.pointer (some ⟨p, 0, none⟩)] w fun e w' =>
      e = .returned (.int .i64 s.frees) ∧ PurseAt w' p lk of s ∧ Keep (PF p lk) w w' := by
  have hne := h.ne
  obtain ⟨hb, hl, hs⟩ := h
  have c0 : w.cell? ⟨p, 0, none⟩ = some (.pointer (some ⟨lk, 0, none⟩)) := hb.at_ 0
  cases q : s.closed
  · have hf : s.frees = s.limit - (s.hand + s.parts) := by simp [PSt.frees, q]
    rw [hf]
    clear hf
    go_enter_defers Tryz.func126, Tryz.ntmps126
    go_wp2_with (first
      | (go_at_call 130; refine (lock_any lk _ hl).mono ?_; rintro e w1 ⟨rfl, hl1, hk1⟩
         have hb1 : PBlk w1 p lk of s := Blk.keep hb hk1 hne
         have c01 : w1.cell? ⟨p, 0, none⟩ = some (.pointer (some ⟨lk, 0, none⟩)) := hb1.at_ 0
         have c51 : w1.cell? ⟨p, 5, none⟩ = some (.bool false) := by rw [← q]; exact hb1.at_ 5)
      | (go_at_call 183; refine (free_any p lk of s _ hb1 hs).mono ?_; rintro e w2 ⟨rfl, hd⟩; obtain ⟨m, rfl⟩ := hd.out))
    refine leaves_cons (f := 131) (args := #[.pointer (some ⟨lk, 0, none⟩)]) (by simp) (by simp [go_sem]) ?_
    refine (unlock_later lk .returning _ (by exact hl1)).mono ?_
    rintro e u' w4 ⟨rfl, rfl, hl4, hk4⟩
    exact ⟨_, results_tmp rfl _ _ _, rfl, ⟨Blk.keep (Blk.drewN hb1 m) hk4 hne, hl4, hs⟩, ((One.pf hk1).drewN m).then_ (One.pf hk4)⟩
  · have hf : s.frees = 0 := by simp [PSt.frees, q]
    rw [hf]
    clear hf
    go_enter_defers Tryz.func126, Tryz.ntmps126
    go_wp2_with (first
      | (go_at_call 130; refine (lock_any lk _ hl).mono ?_; rintro e w1 ⟨rfl, hl1, hk1⟩
         have hb1 : PBlk w1 p lk of s := Blk.keep hb hk1 hne
         have c01 : w1.cell? ⟨p, 0, none⟩ = some (.pointer (some ⟨lk, 0, none⟩)) := hb1.at_ 0
         have c51 : w1.cell? ⟨p, 5, none⟩ = some (.bool true) := by rw [← q]; exact hb1.at_ 5))
    refine leaves_cons (f := 131) (args := #[.pointer (some ⟨lk, 0, none⟩)]) (by simp) (by simp [go_sem]) ?_
    refine (unlock_later lk .returning _ (by exact hl1)).mono ?_
    rintro e u' w4 ⟨rfl, rfl, hl4, hk4⟩
    exact ⟨_, results_tmp rfl _ _ _, rfl, ⟨Blk.keep hb1 hk4 hne, hl4, hs⟩, (One.pf hk1).then_ (One.pf hk4)⟩
def PSt.new (limit : Int) : PSt := { limit := limit, hand := 0, parts := 0, opn := 0, closed := false, peak := 0 }
set_option maxHeartbeats 800000 in
theorem new_any (limit : Int) (w : World) (h0 : 0 ≤ limit) (h1 : limit ≤ 9223372036854775807) :
    Calls Tryz.prog 59 #[.int .i64 limit] w fun e w' => ∃ p lk, e = .returned (.tuple #[.pointer (some ⟨p, 0, none⟩), .int .i64 0]) ∧ PurseAt w' p lk none (PSt.new limit) ∧
      w.heap.size ≤ p ∧ w.heap.size ≤ lk ∧ Keep Nil w w' := by
  go_enter Tryz.func59, Tryz.ntmps59
  go_wp2
  go_ret2
  refine ⟨w.heap.size + 1, w.heap.size, rfl, ⟨Blk.new_at _ _ _ (by simp), (Blk.new_at w _ _ rfl).alloc _, ?_⟩, by omega, by omega, ((Keep.refl _ w).alloc _).alloc _⟩
  constructor <;> simp only [PSt.new] <;> omega
end Go.Proofs.YtadipinnbehhhaaGreatDoor
namespace Go.Proofs.YtadipinnbehhhaaGreatDoor
open Go.RowKit

def RF (F : Nat → Prop) (p lk k : Nat) : Nat → Prop := fun b => F b ∨ PF p lk b ∨ b = k
structure DkAt (w : World) (F : Nat → Prop) (E : Nat → Addr) (d p lk k : Nat) (of : Option Nat) (D : DSt) (S : PSt) (K next : Int) : Prop where mk ::
  disk : ∃ R, DiskAt w F d D R
  purse : PurseAt w p lk of S
  desk : Blk w k 242 #[.pointer (some ⟨d, 0, none⟩), .pointer (some ⟨p, 0, none⟩), .int .i64 K, .int .i64 next]
  env : Env w (RF F p lk k) E
  np : ¬ F p
  nl : ¬ F lk
  nk : ¬ F k
section
variable {w w' : World} {F F' : Nat → Prop} {E : Nat → Addr} {d p lk k : Nat} {of : Option Nat} {D D' : DSt} {S S' : PSt} {K next : Int}

def DkTo (w : World) (F : Nat → Prop) (E : Nat → Addr) (d p lk k : Nat) (of : Option Nat) (D' : DSt) (S' : PSt) (K next : Int) (w' : World) : Prop :=
  ∃ F', DkAt w' F' E d p lk k of D' S' K next ∧ Stp w (RF F p lk k) w' (RF F' p lk k)
theorem DkAt.kp (h : DkAt w F E d p lk k of D S K next) : k ≠ p := Blk.ne_ h.desk h.purse.blk (by decide)
theorem DkAt.kl (h : DkAt w F E d p lk k of D S K next) : k ≠ lk := Blk.ne_ h.desk h.purse.lock (by decide)
theorem DkAt.envd (h : DkAt w F E d p lk k of D S K next) : Env w F E := ⟨h.env.errs, fun i hi hf => h.env.nv i hi (.inl hf), fun i hi hf => h.env.nb i hi (.inl hf)⟩
theorem DkAt.nil (h : DkAt w F E d p lk k of D S K next) (q : Keep Nil w w') : DkAt w' F E d p lk k of D S K next := {
  disk := by obtain ⟨R, hd⟩ := h.disk; exact ⟨R, hd.nil q⟩
  purse := h.purse.keep q (fun h => h) (fun h => h)
  desk := h.desk.keep q (fun h => h)
  env := h.env.nil q
  np := h.np
  nl := h.nl
  nk := h.nk }
theorem DkAt.keep {G : Nat → Prop} (h : DkAt w F E d p lk k of D S K next) (q : Keep G w w') (hG : ∀ b, RF F p lk k b → ¬ G b) (hv : ∀ i, i < 9 → ¬ G (errVar i)) (hb : ∀ i, i < 9 → ¬ G (E i).block) : DkAt w' F E d p lk k of D S K next := {
  disk := by obtain ⟨R, hd⟩ := h.disk; exact ⟨R, hd.keep q (fun b hf => hG b (.inl hf))⟩
  purse := h.purse.keep q (hG _ (.inr (.inl (.inl rfl)))) (hG _ (.inr (.inl (.inr rfl))))
  desk := h.desk.keep q (hG _ (.inr (.inr rfl)))
  env := ⟨h.env.errs.keep q hv hb, h.env.nv, h.env.nb⟩
  np := h.np
  nl := h.nl
  nk := h.nk }
theorem DkAt.at_disk (h : DkAt w F E d p lk k of D S K next) (t : DiskTo d F D' w w') : DkTo w F E d p lk k of D' S K next w' := by
  obtain ⟨F', R', hd, hs⟩ := t
  have hnew : ∀ b, b < w.heap.size → ¬ F b → ¬ F' b := fun b hb hn hf => (hs.grow b hf).elim hn (fun h => by omega)
  have hlp := h.purse.blk.lt
  have hll := h.purse.lock.lt
  have hlk := h.desk.lt
  have hst : Stp w (RF F p lk k) w' (RF F' p lk k) := by
    refine ⟨hs.keep.mono (fun b _ hf => .inl hf), fun b hb => ?_⟩
    rcases hb with hf | hf
    · exact (hs.grow b hf).elim (fun h => .inl (.inl h)) .inr
    · exact .inl (.inr hf)
  exact ⟨F', ⟨⟨R', hd⟩, h.purse.keep hs.keep h.np h.nl, h.desk.keep hs.keep h.nk, h.env.step hst, hnew p hlp h.np, hnew lk hll h.nl, hnew k hlk h.nk⟩, hst⟩
theorem DkAt.at_purse (h : DkAt w F E d p lk k of D S K next) (t : PurseAt w' p lk of S') (q : Keep (PF p lk) w w') : DkTo w F E d p lk k of D S' K next w' := by
  have hst : Stp w (RF F p lk k) w' (RF F p lk k) := ⟨q.mono (fun b _ hf => .inr (.inl hf)), fun b hb => .inl hb⟩
  obtain ⟨R, hd⟩ := h.disk
  refine ⟨F, ⟨⟨R, hd.keep q ?_⟩, t, h.desk.keep q ?_, h.env.step hst, h.np, h.nl, h.nk⟩, hst⟩
  · rintro b hf (rfl | rfl)
    · exact h.np hf
    · exact h.nl hf
  · rintro (e | e)
    · exact h.kp e
    · exact h.kl e
theorem DkTo.refl (h : DkAt w F E d p lk k of D S K next) : DkTo w F E d p lk k of D S K next w := ⟨F, h, Stp.refl _ _⟩
theorem DkTo.nil {w2 : World} (h : DkTo w F E d p lk k of D' S' K next w') (q : Keep Nil w' w2) : DkTo w F E d p lk k of D' S' K next w2 := by
  obtain ⟨F1, h1, s1⟩ := h
  exact ⟨F1, h1.nil q, s1.then_nil q⟩
theorem DkTo.from_nil {w0 : World} (h : DkTo w F E d p lk k of D' S' K next w') (q : Keep Nil w0 w) : DkTo w0 F E d p lk k of D' S' K next w' := by
  obtain ⟨F1, h1, s1⟩ := h
  exact ⟨F1, h1, (Stp.of_nil q _).trans s1⟩
end

end Go.Proofs.YtadipinnbehhhaaGreatDoor
namespace Go.Proofs.YtadipinnbehhhaaGreatDoor
open Go.RowKit

theorem asked_frees {S : PSt} {K : Int} (hK : 0 < K) (h : ¬ S.frees < K) : S.asked K = 0 := by
  unfold PSt.frees at h
  unfold PSt.asked
  split at h
  · omega
  · rename_i hc
    rw [if_neg hc, if_neg (by omega), if_neg (by omega)]
section
variable {w w' : World} {F F' : Nat → Prop} {E : Nat → Addr} {d p lk k : Nat} {of : Option Nat} {D D' : DSt} {S S' : PSt} {K next : Int}

theorem DkAt.lt (h : DkAt w F E d p lk k of D S K next) (b : Nat) (hb : RF F p lk k b) : b < w.heap.size := by
  obtain ⟨R, hd⟩ := h.disk
  rcases hb with hf | (hf | hf) | hf
  · exact hd.lt b hf
  · rw [hf]; exact h.purse.blk.lt
  · rw [hf]; exact h.purse.lock.lt
  · rw [hf]; exact h.desk.lt
theorem frees_dk (h : DkAt w F E d p lk k of D S K next) :
    Calls Tryz.prog 126 #[.pointer (some ⟨p, 0, none⟩)] w fun e w' => e = .returned (.int .i64 S.frees) ∧ DkTo w F E d p lk k of D S K next w' :=
  (frees_any p lk of S w h.purse).mono fun _ _ ⟨he, hp, hk⟩ => ⟨he, h.at_purse hp hk⟩
theorem take_dk (n : Int) (h : DkAt w F E d p lk k of D S K next) :
    Calls Tryz.prog 127 #[.pointer (some ⟨p, 0, none⟩), .int .i64 n] w fun e w' => e = .returned (.int .i64 (S.asked n)) ∧ DkTo w F E d p lk k of D (S.take n) K next w' :=
  (take_any p lk of S n w h.purse).mono fun _ _ ⟨he, hp, hk⟩ => ⟨he, h.at_purse hp hk⟩
theorem give_dk (n : Int) (h : DkAt w F E d p lk k of D S K next) :
    Calls Tryz.prog 129 #[.pointer (some ⟨p, 0, none⟩), .int .i64 n] w fun e w' => e = .returned (.int .i64 (S.gives n)) ∧ DkTo w F E d p lk k of D (S.give n) K next w' :=
  (give_any p lk of S n w h.purse).mono fun _ _ ⟨he, hp, hk⟩ => ⟨he, h.at_purse hp hk⟩
end

end Go.Proofs.YtadipinnbehhhaaGreatDoor
namespace Go.Proofs.YtadipinnbehhhaaGreatDoor
open Go.RowKit

section
variable {w w' w2 : World} {F F' : Nat → Prop} {E : Nat → Addr} {d p lk k : Nat} {of : Option Nat} {D D' D2 : DSt} {S S' S2 : PSt} {K next : Int} {b : Nat} {T : TypeId} {cs cs' cs2 : Array Value}

end

def stSt (done : Bool) (dead : Int) : Int := if done = true then 6 else dead
set_option maxHeartbeats 1000000 in
theorem state_any (b k : Nat) (dead : Int) (done : Bool) (w : World) (c0 : w.cell? ⟨b, 0, none⟩ = some (.pointer (some ⟨k, 0, none⟩))) (c4 : w.cell? ⟨b, 4, none⟩ = some (.int .i64 dead)) (c5 : w.cell? ⟨b, 5, none⟩ = some (.bool done)) :
    Calls Tryz.prog 149 #[.pointer (some ⟨b, 0, none⟩)] w fun e w' => e = .returned (.int .i64 (stSt done dead)) ∧ w' = w := by
  unfold stSt
  cases done
  all_goals
    go_enter Tryz.func149, Tryz.ntmps149
    go_wp2
    go_ret
    exact ⟨rfl, rfl⟩
def kills (e : Int) : Bool := decide (e = 10) || decide (e = 9) || decide (e = 17) || decide (e = 30) || decide (e = 31) || decide (e = 32)
set_option maxHeartbeats 1000000 in
theorem die_any (b : Nat) (x : Int) (u : Value) (w : World) (c4 : w.cell? ⟨b, 4, none⟩ = some u) (f4 : w.frozen? ⟨b, 4, none⟩ = false) :
    Calls Tryz.prog 194 #[.pointer (some ⟨b, 0, none⟩), .int .i64 x] w fun e w' => e = .returned (.int .i64 x) ∧ w' = if kills x = true then w.setCell ⟨b, 4, none⟩ (.int .i64 x) else w := by
  by_cases h1 : x = 10 ∨ x = 9 ∨ x = 17 ∨ x = 30 ∨ x = 31 ∨ x = 32
  · have e : kills x = true := by rcases h1 with rfl | rfl | rfl | rfl | rfl | rfl <;> rfl
    rw [e, if_pos rfl]
    rcases h1 with rfl | rfl | rfl | rfl | rfl | rfl
    all_goals
      clear e
      go_enter Tryz.func194, Tryz.ntmps194
      go_wp2
      go_ret
      exact ⟨rfl, rfl⟩
  · have e : kills x = false := by simp [kills]; omega
    rw [e, if_neg (by decide)]
    have q1 : (x == 10) = false := by simp; omega
    have q2 : (x == 9) = false := by simp; omega
    have q3 : (x == 17) = false := by simp; omega
    have q4 : (x == 30) = false := by simp; omega
    have q5 : (x == 31) = false := by simp; omega
    have q6 : (x == 32) = false := by simp; omega
    clear e h1
    go_enter Tryz.func194, Tryz.ntmps194
    go_wp2
    go_ret
    exact ⟨rfl, rfl⟩
end Go.Proofs.YtadipinnbehhhaaGreatDoor
namespace Go.Proofs.YtadipinnbehhhaaGreatDoor
open Go.RowKit

end Go.Proofs.YtadipinnbehhhaaGreatDoor
namespace Go.Proofs.YtadipinnbehhhaaGreatDoor
open Go.RowKit

structure Cx where
  E : Nat → Addr
  d : Nat
  p : Nat
  lk : Nat
  k : Nat
  of : Option Nat
  K : Nat
  block : Nat
structure RSt where
  D : DSt
  S : PSt
  next : Int
def MagicAt (w : World) : Prop := ∀ (i : Nat) (x : Int), [83, 84, 82, 65][i]? = some x → w.cell? ⟨9, i, none⟩ = some (.int .u8 x)
structure Envs (E : Nat → Addr) (w : World) (G : Nat → Prop) : Prop where
  errs : Env w G E
  halves : HalvesAt w
  magic : MagicAt w
  nh : ¬ G 11
  nm : ¬ G 9
theorem HalvesAt.keep {w w' : World} {F : Nat → Prop} (h : HalvesAt w) (k : Keep F w w') (hn : ¬ F 11) : HalvesAt w' := fun i hi => cell_keep (h i hi) k hn
theorem MagicAt.keep {w w' : World} {F : Nat → Prop} (h : MagicAt w) (k : Keep F w w') (hn : ¬ F 9) : MagicAt w' := fun i x hi => cell_keep (h i x hi) k hn
section
variable {E : Nat → Addr} {w w' w2 : World} {G G' G2 H : Nat → Prop}
theorem Envs.step (h : Envs E w G) (s : Stp w G w' G') : Envs E w' G' := {
  errs := h.errs.step s
  halves := h.halves.keep s.keep h.nh
  magic := h.magic.keep s.keep h.nm
  nh := fun hf => (s.grow _ hf).elim h.nh (fun hl => by have := cell_lt (h.halves 0 (by decide)); simp only at this; omega)
  nm := fun hf => (s.grow _ hf).elim h.nm (fun hl => by have := cell_lt (h.magic 0 83 rfl); simp only at this; omega) }
theorem Envs.nil (h : Envs E w G) (k : Keep Nil w w') : Envs E w' G := h.step (Stp.of_nil k G)
theorem Stp.less (h : Stp w G w' G') (hs : ∀ b, H b → G' b) : Stp w G w' H := ⟨h.keep, fun b hb => h.grow b (hs b hb)⟩
theorem Stp.part (h : Stp w G w' G') (H : Nat → Prop) : Stp w (fun b => G b ∨ H b) w' (fun b => G' b ∨ H b) :=
  ⟨h.keep.mono (fun _ _ hb => .inl hb), fun b hb => hb.elim (fun h1 => (h.grow b h1).elim (fun h => .inl (.inl h)) .inr) (fun h => .inl (.inr h))⟩
theorem Stp.off (h : Stp w G w' G') {b : Nat} (hb : b < w.heap.size) (hn : ¬ G b) : ¬ G' b := fun hg => (h.grow b hg).elim hn (fun hl => by omega)
end

structure RmAt (c : Cx) (w : World) (G : Nat → Prop) (s : RSt) : Prop where mk ::
  out : ∃ F, G = RF F c.p c.lk c.k ∧ DkAt w F c.E c.d c.p c.lk c.k c.of s.D s.S c.K s.next
  env : Envs c.E w G
  blk : s.D.block = c.block
  fitK : fit c.block = c.K
  posK : 0 < c.K
def RmTo (c : Cx) (G : Nat → Prop) (s' : RSt) (w w' : World) : Prop := ∃ G', RmAt c w' G' s' ∧ Stp w G w' G'
section
variable {c : Cx} {w w' w2 w0 : World} {G G' : Nat → Prop} {s s' s2 : RSt}
theorem RmAt.lt (h : RmAt c w G s) (b : Nat) (hb : G b) : b < w.heap.size := by
  obtain ⟨F, rfl, hd⟩ := h.out
  exact hd.lt b hb
theorem RmAt.nil (h : RmAt c w G s) (k : Keep Nil w w') : RmAt c w' G s := by
  obtain ⟨F, rfl, hd⟩ := h.out
  exact ⟨⟨F, rfl, hd.nil k⟩, h.env.nil k, h.blk, h.fitK, h.posK⟩
theorem RmAt.keep {H : Nat → Prop} (h : RmAt c w G s) (k : Keep H w w') (hG : ∀ b, G b → ¬ H b) (he : Envs c.E w H) : RmAt c w' G s := by
  obtain ⟨F, rfl, hd⟩ := h.out
  refine ⟨⟨F, rfl, hd.keep k hG he.errs.nv he.errs.nb⟩, ?_, h.blk, h.fitK, h.posK⟩
  exact ⟨⟨h.env.errs.errs.keep k he.errs.nv he.errs.nb, h.env.errs.nv, h.env.errs.nb⟩, h.env.halves.keep k he.nh, h.env.magic.keep k he.nm, h.env.nh, h.env.nm⟩
theorem RmAt.step {F : Nat → Prop} {D' : DSt} {S' : PSt} (h : RmAt c w (RF F c.p c.lk c.k) s) (t : DkTo w F c.E c.d c.p c.lk c.k c.of D' S' c.K s.next w') (hb : D'.block = s.D.block) : RmTo c (RF F c.p c.lk c.k) { s with D := D', S := S' } w w' := by
  obtain ⟨F', h1, s1⟩ := t
  exact ⟨_, ⟨⟨F', rfl, h1⟩, h.env.step s1, hb.trans h.blk, h.fitK, h.posK⟩, s1⟩
end
end Go.Proofs.YtadipinnbehhhaaGreatDoor
namespace Go.Proofs.YtadipinnbehhhaaGreatDoor
open Go.RowKit

end Go.Proofs.YtadipinnbehhhaaGreatDoor
namespace Go.Proofs.YtadipinnbehhhaaGreatDoor
open Go.RowKit

structure WSt where
  name : ByteArray
  kind : Nat
  dead : Int
  done : Bool
  place : Nat
  count : Nat
  list : List R4
def Off (E : Nat → Addr) (G : Nat → Prop) (g : Nat) : Prop := ¬ G g ∧ (∀ i, i < 9 → errVar i ≠ g ∧ (E i).block ≠ g) ∧ g ≠ 11 ∧ g ≠ 9
def WF (G : Nat → Prop) (b : Nat) (v : Value) : Nat → Prop := fun x => (G x ∨ x = b) ∨ v.ownBlock = some x
theorem Off.new {E : Nat → Addr} {w : World} {G : Nat → Prop} {g : Nat} (h : Envs E w G) (hG : ∀ b, G b → b < w.heap.size) (hg : w.heap.size ≤ g) : Off E G g := by
  refine ⟨fun hb => by have := hG g hb; omega, fun i hi => ⟨fun e => ?_, fun e => ?_⟩, fun e => ?_, fun e => ?_⟩
  · have := h.errs.errs.old i hi; omega
  · obtain ⟨cs, t, hb⟩ := h.errs.errs.blk i hi
    have := lt_of_heap hb
    omega
  · have := cell_lt (h.halves 0 (by decide)); simp only at this; omega
  · have := cell_lt (h.magic 0 83 rfl); simp only at this; omega
theorem Off.step {E : Nat → Addr} {w w' : World} {G G' : Nat → Prop} {g : Nat} (h : Off E G g) (hg : g < w.heap.size) (s : Stp w G w' G') : Off E G' g := ⟨s.off hg h.1, h.2⟩
theorem rcCells_len (l : List R4) : (rcCells l).length = 4 * l.length := by
  induction l with
  | nil => rfl
  | cons r l ih =>
    have : rcCells (r :: l) = (r.ws.map fun (x : Nat) => Value.int .u64 x) ++ rcCells l := rfl
    rw [this, List.length_append, ih]
    simp [R4.ws]; omega
theorem rcCells_app (a b : List R4) : rcCells (a ++ b) = rcCells a ++ rcCells b := by simp [rcCells]
section
variable {w w' : World} {G G' H : Nat → Prop} {E : Nat → Addr} {v : Value} {l : List R4}
end

section
variable {c : Cx} {w w' w2 w0 : World} {b : Nat} {G G' : Nat → Prop} {s s' s2 : RSt} {x x' x2 : WSt}
end

theorem RmAt.desk {c : Cx} {w : World} {G : Nat → Prop} {s : RSt} (h : RmAt c w G s) : Blk w c.k 242 #[.pointer (some ⟨c.d, 0, none⟩), .pointer (some ⟨c.p, 0, none⟩), .int .i64 c.K, .int .i64 s.next] := by
  obtain ⟨F, _, hd⟩ := h.out
  exact hd.desk
theorem encB_len {kind : Int} {place block : Nat} {l : List R4} (h : 32 * l.length + 32 ≤ block) : (encB kind place l block).length = block := by
  unfold encB
  rw [List.length_append, encBody_len h, loB_len]; omega
theorem encB_range {kind : Int} {place block : Nat} {l : List R4} (hk : 1 ≤ kind ∧ kind ≤ 255) : ∀ x ∈ encB kind place l block, 0 ≤ x ∧ x ≤ 255 := by
  intro x hx
  rcases List.mem_append.1 hx with hx | hx
  · exact encBody_range hk x hx
  · exact loB_range _ _ x hx
end Go.Proofs.YtadipinnbehhhaaGreatDoor
namespace Go.Proofs.YtadipinnbehhhaaGreatDoor
open Go.RowKit

end Go.Proofs.YtadipinnbehhhaaGreatDoor
namespace Go.Proofs.YtadipinnbehhhaaGreatDoor
open Go.RowKit

theorem info_rec : (Tryz.prog.info? 111).map (fun i => (i.zero, i.size, i.bytes)) = some (some (.agg #[.int .u64 0, .int .u64 0, .int .u64 0, .int .u64 0]), 4, 32) := by kernel_rfl
theorem news_new {w : World} {t : TypeId} {cs : List Value} {n : Nat} (hn : w.heap.size = n) : ∀ (j : Nat) (u : Value), cs[j]? = some u → (w.alloc (.cells cs.toArray t)).cell? (Addr.add ⟨n, 0, none⟩ j) = some u := by
  intro j u hu
  subst hn
  have := (Blk.new w t cs.toArray).at_ j
  rw [List.getElem?_toArray, hu] at this
  by_cases h0 : j = 0
  · subst h0; simpa [Addr.add] using this
  · simpa [Addr.add, h0] using this
def R4.val (r : R4) : Value := .agg #[.int .u64 r.a, .int .u64 r.b, .int .u64 r.c, .int .u64 r.d]
end Go.Proofs.YtadipinnbehhhaaGreatDoor
namespace Go.Proofs.YtadipinnbehhhaaGreatDoor
open Go.RowKit

theorem give_rm {c : Cx} {w : World} {G : Nat → Prop} {s : RSt} (h : RmAt c w G s) (n : Int) :
    Calls Tryz.prog 129 #[.pointer (some ⟨c.p, 0, none⟩), .int .i64 n] w fun e w' => e = .returned (.int .i64 (s.S.gives n)) ∧ RmTo c G { s with S := s.S.give n } w w' := by
  obtain ⟨F, rfl, hd⟩ := h.out
  exact (give_dk n hd).mono fun _ _ ⟨he, ht⟩ => ⟨he, h.step ht rfl⟩
end Go.Proofs.YtadipinnbehhhaaGreatDoor
namespace Go.Proofs.YtadipinnbehhhaaGreatDoor
open Go.RowKit

structure InA (w : World) (H : Nat → Prop) (a : Addr) : Prop where
  h : H a.block
  lt : a.block < w.heap.size
  sp : a.spot = none
def In_ (w : World) (H : Nat → Prop) (A : Option Addr) : Prop := ∀ a, A = some a → InA w H a
theorem add_at (g o j : Nat) : (⟨g, o, none⟩ : Addr).add j = ⟨g, o + j, none⟩ := by
  unfold Addr.add
  split
  · rename_i h; rw [h]; rfl
  · rfl
structure BsAt (w : World) (H : Nat → Prop) (v : Value) (bs : List Int) : Prop where mk ::
  out : ∃ A c, v = .slice A bs.length c ∧ bs.length ≤ c ∧ Rd w A (by8 bs) ∧ In_ w H A ∧ ∀ a, A = some a → ∃ cs fr, w.heap[a.block]? = some (.cells cs 5 fr)
structure FsAt (w : World) (H : Nat → Prop) (v : Value) (f : List (List Int)) : Prop where mk ::
  out : ∃ A c vs, v = .slice A f.length c ∧ vs.length = f.length ∧ Rd w A vs ∧ In_ w H A ∧ (∀ a, A = some a → ∃ cs fr, w.heap[a.block]? = some (.cells cs 161 fr)) ∧ ∀ (j : Nat) (u : Value) (bs : List Int), vs[j]? = some u → f[j]? = some bs → BsAt w H u bs
def fileCells (fs : List (ByteArray × AFile)) (rs : List Value) : List Value := (List.zip fs rs).flatMap fun p => [.string p.1.1, .bool p.1.2.done, p.2]
structure FlAt (w : World) (H : Nat → Prop) (v : Value) (fs : List (ByteArray × AFile)) : Prop where mk ::
  out : ∃ A c rs, v = .slice A fs.length c ∧ rs.length = fs.length ∧ Rd w A (fileCells fs rs) ∧ In_ w H A ∧ (∀ a, A = some a → ∃ cs fr, w.heap[a.block]? = some (.cells cs 55 fr)) ∧ ∀ (j : Nat) (r : Value) (f : ByteArray × AFile), rs[j]? = some r → fs[j]? = some f → FsAt w H r f.2.blocks
structure StAt (w : World) (H : Nat → Prop) (v : Value) (block : Int) (fs : List (ByteArray × AFile)) : Prop where mk ::
  out : ∃ u, v = .agg #[.int .i64 block, u] ∧ FlAt w H u fs
section
variable {w w' : World} {F H H' : Nat → Prop}
theorem In_.keep {A : Option Addr} (h : In_ w H A) (k : Keep F w w') : In_ w' H A := fun a e => ⟨(h a e).1, Nat.lt_of_lt_of_le (h a e).2 k.size, (h a e).3⟩
theorem In_.mono {A : Option Addr} (h : In_ w H A) (hs : ∀ b, H b → b < w.heap.size → H' b) : In_ w H' A := fun a e => ⟨hs _ (h a e).1 (h a e).2, (h a e).2, (h a e).3⟩
theorem In_.none_ : In_ w H none := fun a e => by cases e
theorem BsAt.keep {v : Value} {bs : List Int} (h : BsAt w H v bs) (k : Keep F w w') (hF : ∀ b, H b → b < w.heap.size → ¬ F b) : BsAt w' H v bs := by
  obtain ⟨A, c, e, hc, hr, hi, ht⟩ := h.out
  refine ⟨A, c, e, hc, hr.keep k (fun ad e _ => hF _ (hi ad e).1 (hi ad e).2), hi.keep k, fun a e2 => ?_⟩
  obtain ⟨cs, fr, hb⟩ := ht a e2
  exact ⟨cs, fr, (k.same _ (hi a e2).2 (hF _ (hi a e2).1 (hi a e2).2)).trans hb⟩
theorem BsAt.mono {v : Value} {bs : List Int} (h : BsAt w H v bs) (hs : ∀ b, H b → b < w.heap.size → H' b) : BsAt w H' v bs := by
  obtain ⟨A, c, e, hc, hr, hi, ht⟩ := h.out
  exact ⟨A, c, e, hc, hr, hi.mono hs, ht⟩
theorem FsAt.keep {v : Value} {f : List (List Int)} (h : FsAt w H v f) (k : Keep F w w') (hF : ∀ b, H b → b < w.heap.size → ¬ F b) : FsAt w' H v f := by
  obtain ⟨A, c, vs, e, hl, hr, hi, ht, hv⟩ := h.out
  refine ⟨A, c, vs, e, hl, hr.keep k (fun ad e _ => hF _ (hi ad e).1 (hi ad e).2), hi.keep k, fun a e2 => ?_, fun j u bs hu hb => (hv j u bs hu hb).keep k hF⟩
  obtain ⟨cs, fr, hb⟩ := ht a e2
  exact ⟨cs, fr, (k.same _ (hi a e2).2 (hF _ (hi a e2).1 (hi a e2).2)).trans hb⟩
theorem FsAt.mono {v : Value} {f : List (List Int)} (h : FsAt w H v f) (hs : ∀ b, H b → b < w.heap.size → H' b) : FsAt w H' v f := by
  obtain ⟨A, c, vs, e, hl, hr, hi, ht, hv⟩ := h.out
  exact ⟨A, c, vs, e, hl, hr, hi.mono hs, ht, fun j u bs hu hb => (hv j u bs hu hb).mono hs⟩
theorem FlAt.keep {v : Value} {fs : List (ByteArray × AFile)} (h : FlAt w H v fs) (k : Keep F w w') (hF : ∀ b, H b → b < w.heap.size → ¬ F b) : FlAt w' H v fs := by
  obtain ⟨A, c, rs, e, hl, hr, hi, ht, hv⟩ := h.out
  refine ⟨A, c, rs, e, hl, hr.keep k (fun ad e _ => hF _ (hi ad e).1 (hi ad e).2), hi.keep k, fun a e2 => ?_, fun j r f hu hb => (hv j r f hu hb).keep k hF⟩
  obtain ⟨cs, fr, hb⟩ := ht a e2
  exact ⟨cs, fr, (k.same _ (hi a e2).2 (hF _ (hi a e2).1 (hi a e2).2)).trans hb⟩
theorem FlAt.mono {v : Value} {fs : List (ByteArray × AFile)} (h : FlAt w H v fs) (hs : ∀ b, H b → b < w.heap.size → H' b) : FlAt w H' v fs := by
  obtain ⟨A, c, rs, e, hl, hr, hi, ht, hv⟩ := h.out
  exact ⟨A, c, rs, e, hl, hr, hi.mono hs, ht, fun j r f hu hb => (hv j r f hu hb).mono hs⟩
theorem BsAt.nil {v : Value} {bs : List Int} (h : BsAt w H v bs) (k : Keep Nil w w') : BsAt w' H v bs := h.keep k (fun _ _ _ h => h)
theorem FsAt.nil {v : Value} {f : List (List Int)} (h : FsAt w H v f) (k : Keep Nil w w') : FsAt w' H v f := h.keep k (fun _ _ _ h => h)
theorem FlAt.nil {v : Value} {fs : List (ByteArray × AFile)} (h : FlAt w H v fs) (k : Keep Nil w w') : FlAt w' H v fs := h.keep k (fun _ _ _ h => h)
theorem BsAt.of_own {base n : Nat} {v : Value} {bs : List Int} (h : w.ownsRow base 5 1 v n (by8 bs)) (hn : bs.length = n) (hH : ∀ g, v.ownBlock = some g → H g) : BsAt w H v bs := by
  subst hn
  have hr := h
  rcases h.2 with ⟨e, h0⟩ | ⟨g, cap, cur, e, hb, hh, hle, hm, hs, ht⟩
  · subst e
    exact ⟨none, 0, by rw [h0], by omega, own_rd hr, In_.none_, fun a e => by cases e⟩
  · subst e
    exact ⟨some ⟨g, 0, none⟩, cap, rfl, hle, own_rd hr, fun a e => by injection e with e; subst e; exact ⟨hH g rfl, lt_of_heap hh, rfl⟩, fun a e => by injection e with e; subst e; exact ⟨_, _, hh⟩⟩
structure OFs (w : World) (base : Nat) (H : Nat → Prop) (v : Value) (f : List (List Int)) : Prop where mk ::
  out : ∃ vs, w.ownsRow base 161 1 v f.length vs ∧ ∀ (j : Nat) (u : Value) (bs : List Int), vs[j]? = some u → f[j]? = some bs → BsAt w H u bs
theorem OFs.fs {base : Nat} {v : Value} {f : List (List Int)} (h : OFs w base H v f) (hH : ∀ g, v.ownBlock = some g → H g) : FsAt w H v f := by
  obtain ⟨vs, ho, hv⟩ := h.out
  have hr := ho
  have hl : vs.length = f.length := by simpa using ho.1
  rcases ho.2 with ⟨e, h0⟩ | ⟨g, cap, cur, e, hb, hh, hle, hm, hs, ht⟩
  · subst e
    exact ⟨none, 0, vs, by rw [h0], hl, own_rd hr, In_.none_, (fun a e => by cases e), hv⟩
  · subst e
    exact ⟨some ⟨g, 0, none⟩, cap, vs, rfl, hl, own_rd hr, fun a e => by injection e with e; subst e; exact ⟨hH g rfl, lt_of_heap hh, rfl⟩, fun a e => by injection e with e; subst e; exact ⟨_, _, hh⟩, hv⟩
theorem OFs.nil_ (w : World) (base : Nat) (H : Nat → Prop) : OFs w base H (.slice none 0 0) [] := ⟨[], World.ownsRow_nil _ _ _ _, fun j u bs hu => by simp at hu⟩
theorem OFs.push {base : Nat} {v v' u : Value} {f : List (List Int)} {bs : List Int} {vs : List Value} {w1 : World} (hv : ∀ (j : Nat) (u : Value) (bs : List Int), vs[j]? = some u → f[j]? = some bs → BsAt w1 H u bs) (hl : vs.length = f.length)
    (hu : BsAt w1 H u bs) (ho : w'.ownsRow base 161 1 v' (f.length + 1) (vs ++ [u])) (k : Keep (fun b => v.ownBlock = some b) w1 w') (hH : ∀ g, v.ownBlock = some g → ∀ cs fr, ¬ w1.heap[g]? = some (.cells cs 5 fr)) : OFs w' base H v' (f ++ [bs]) := by
  have key : ∀ {u : Value} {bs : List Int}, BsAt w1 H u bs → BsAt w' H u bs := fun {u bs} h => by
    obtain ⟨A, c, e, hc, hr, hi, ht⟩ := h.out
    have hno : ∀ a, A = some a → ¬ v.ownBlock = some a.block := fun a e2 e3 => by
      obtain ⟨cs, fr, hb⟩ := ht a e2
      exact hH _ e3 cs fr hb
    refine ⟨A, c, e, hc, hr.keep k (fun ad e2 _ => hno ad e2), hi.keep k, fun a e2 => ?_⟩
    obtain ⟨cs, fr, hb⟩ := ht a e2
    exact ⟨cs, fr, (k.same _ (hi a e2).2 (hno a e2)).trans hb⟩
  refine ⟨vs ++ [u], by rw [List.length_append]; exact ho, fun j x c hx hc => ?_⟩
  by_cases hj : j < f.length
  · rw [List.getElem?_append_left (by omega)] at hx
    rw [List.getElem?_append_left hj] at hc
    exact key (hv j x c hx hc)
  · rw [List.getElem?_append_right (by omega)] at hx hc
    rw [hl] at hx
    have h0 : j - f.length = 0 := by
      have := (List.getElem?_eq_some_iff.1 hc).1
      simp at this
      omega
    rw [h0] at hx hc
    simp only [List.getElem?_cons_zero, Option.some.injEq] at hx hc
    subst hx hc
    exact key hu
theorem BsAt.far {v : Value} {bs : List Int} {g : Nat} (h : BsAt w H v bs) (k : Keep (fun b => b = g) w w') (hg : ∀ cs fr, ¬ w.heap[g]? = some (.cells cs 5 fr)) : BsAt w' H v bs := by
  obtain ⟨A, c, e, hc, hr, hi, ht⟩ := h.out
  have hno : ∀ a, A = some a → ¬ a.block = g := fun a e2 e3 => by
    obtain ⟨cs, fr, hb⟩ := ht a e2
    exact hg cs fr (by rw [← e3]; exact hb)
  refine ⟨A, c, e, hc, hr.keep k (fun ad e2 _ => hno ad e2), hi.keep k, fun a e2 => ?_⟩
  obtain ⟨cs, fr, hb⟩ := ht a e2
  exact ⟨cs, fr, (k.same _ (hi a e2).2 (hno a e2)).trans hb⟩
theorem FsAt.far {v : Value} {f : List (List Int)} {g : Nat} (h : FsAt w H v f) (k : Keep (fun b => b = g) w w') (hg : ∀ cs fr, ¬ w.heap[g]? = some (.cells cs 5 fr)) (hg2 : ∀ cs fr, ¬ w.heap[g]? = some (.cells cs 161 fr)) : FsAt w' H v f := by
  obtain ⟨A, c, vs, e, hl, hr, hi, ht, hv⟩ := h.out
  have hno : ∀ a, A = some a → ¬ a.block = g := fun a e2 e3 => by
    obtain ⟨cs, fr, hb⟩ := ht a e2
    exact hg2 cs fr (by rw [← e3]; exact hb)
  refine ⟨A, c, vs, e, hl, hr.keep k (fun ad e2 _ => hno ad e2), hi.keep k, fun a e2 => ?_, fun j u bs hu hb => (hv j u bs hu hb).far k hg⟩
  obtain ⟨cs, fr, hb⟩ := ht a e2
  exact ⟨cs, fr, (k.same _ (hi a e2).2 (hno a e2)).trans hb⟩
theorem FlAt.far {v : Value} {fs : List (ByteArray × AFile)} {g : Nat} (h : FlAt w H v fs) (k : Keep (fun b => b = g) w w') (hg : ∀ cs t fr, w.heap[g]? = some (.cells cs t fr) → t ≠ 5 ∧ t ≠ 161 ∧ t ≠ 55) : FlAt w' H v fs := by
  obtain ⟨A, c, rs, e, hl, hr, hi, ht, hv⟩ := h.out
  have hno : ∀ a, A = some a → ¬ a.block = g := fun a e2 e3 => by
    obtain ⟨cs, fr, hb⟩ := ht a e2
    exact (hg cs _ fr (by rw [← e3]; exact hb)).2.2 rfl
  refine ⟨A, c, rs, e, hl, hr.keep k (fun ad e2 _ => hno ad e2), hi.keep k, fun a e2 => ?_, fun j u f hu hb => (hv j u f hu hb).far k (fun cs fr hc => (hg cs _ fr hc).1 rfl) (fun cs fr hc => (hg cs _ fr hc).2.1 rfl)⟩
  obtain ⟨cs, fr, hb⟩ := ht a e2
  exact ⟨cs, fr, (k.same _ (hi a e2).2 (hno a e2)).trans hb⟩
theorem fileCells_app (fs gs : List (ByteArray × AFile)) (rs ts : List Value) (h : rs.length = fs.length) : fileCells (fs ++ gs) (rs ++ ts) = fileCells fs rs ++ fileCells gs ts := by
  unfold fileCells
  rw [List.zip_append h.symm, List.flatMap_append]
theorem fileCells_at : ∀ (fs : List (ByteArray × AFile)) (rs : List Value) (j : Nat) (f : ByteArray × AFile) (r : Value), fs[j]? = some f → rs[j]? = some r →
    (fileCells fs rs)[j * 3]? = some (.string f.1) ∧ (fileCells fs rs)[j * 3 + 1]? = some (.bool f.2.done) ∧ (fileCells fs rs)[j * 3 + 2]? = some r
  | [], _, _, _, _, h, _ => by simp at h
  | _ :: _, [], _, _, _, _, h => by simp at h
  | f :: fs, r :: rs, 0, f', r', h1, h2 => by
    simp only [List.getElem?_cons_zero, Option.some.injEq] at h1 h2
    subst h1 h2
    exact ⟨rfl, rfl, rfl⟩
  | f :: fs, r :: rs, j + 1, f', r', h1, h2 => by
    have ih := fileCells_at fs rs j f' r' (by simpa using h1) (by simpa using h2)
    have e : fileCells (f :: fs) (r :: rs) = .string f.1 :: .bool f.2.done :: r :: fileCells fs rs := rfl
    rw [e, show (j + 1) * 3 = j * 3 + 1 + 1 + 1 from by omega, show j * 3 + 1 + 1 + 1 + 1 = (j * 3 + 1) + 1 + 1 + 1 from by omega, show j * 3 + 1 + 1 + 1 + 2 = (j * 3 + 2) + 1 + 1 + 1 from by omega]
    simpa using ih
structure OFl (w : World) (base : Nat) (H : Nat → Prop) (v : Value) (fs : List (ByteArray × AFile)) : Prop where mk ::
  out : ∃ rs, rs.length = fs.length ∧ w.ownsRow base 55 3 v fs.length (fileCells fs rs) ∧ ∀ (j : Nat) (r : Value) (f : ByteArray × AFile), rs[j]? = some r → fs[j]? = some f → FsAt w H r f.2.blocks
theorem OFl.fl {base : Nat} {v : Value} {fs : List (ByteArray × AFile)} (h : OFl w base H v fs) (hH : ∀ g, v.ownBlock = some g → H g) : FlAt w H v fs := by
  obtain ⟨rs, hl, ho, hv⟩ := h.out
  have hr := ho
  rcases ho.2 with ⟨e, h0⟩ | ⟨g, cap, cur, e, hb, hh, hle, hm, hs, ht⟩
  · subst e
    exact ⟨none, 0, rs, by rw [h0], hl, own_rd hr, In_.none_, (fun a e => by cases e), hv⟩
  · subst e
    exact ⟨some ⟨g, 0, none⟩, cap, rs, rfl, hl, own_rd hr, (fun a e => by injection e with e; subst e; exact ⟨hH g rfl, lt_of_heap hh, rfl⟩), (fun a e => by injection e with e; subst e; exact ⟨_, _, hh⟩), hv⟩
theorem OFl.nil_ (w : World) (base : Nat) (H : Nat → Prop) : OFl w base H (.slice none 0 0) [] := ⟨[], rfl, World.ownsRow_nil _ _ _ _, fun j u bs hu => by simp at hu⟩
theorem OFl.mono {base : Nat} {v : Value} {fs : List (ByteArray × AFile)} (h : OFl w base H v fs) (hs : ∀ b, H b → b < w.heap.size → H' b) : OFl w base H' v fs := by
  obtain ⟨rs, hl, ho, hv⟩ := h.out
  exact ⟨rs, hl, ho, fun j u bs hu hb => (hv j u bs hu hb).mono hs⟩
theorem OFl.push {base : Nat} {v v' r : Value} {fs : List (ByteArray × AFile)} {f : ByteArray × AFile} {rs : List Value} {w1 : World} (hv : ∀ (j : Nat) (r : Value) (f : ByteArray × AFile), rs[j]? = some r → fs[j]? = some f → FsAt w1 H r f.2.blocks) (hl : rs.length = fs.length)
    (ho0 : w1.ownsRow base 55 3 v fs.length (fileCells fs rs)) (hr : FsAt w1 H r f.2.blocks) (ho : w'.ownsRow base 55 3 v' (fs.length + 1) (fileCells fs rs ++ [.string f.1, .bool f.2.done, r])) (k : Keep (fun b => v.ownBlock = some b) w1 w') : OFl w' base H v' (fs ++ [f]) := by
  have key : ∀ {r : Value} {f : List (List Int)}, FsAt w1 H r f → FsAt w' H r f := fun {r f} h => by
    rcases ho0.2 with ⟨e, _⟩ | ⟨g, cap, cur, e, _, hh, _⟩
    · subst e
      exact h.nil (k.mono fun b _ hb => by simp [Value.ownBlock] at hb)
    · subst e
      refine h.far (g := g) (k.mono fun b _ hb => ?_) (fun cs fr hb => ?_) (fun cs fr hb => ?_)
      · have : g = b := by simpa [Value.ownBlock] using hb
        exact this.symm
      · rw [hb] at hh; injection hh with hh; injection hh with _ hh; exact absurd hh (by decide)
      · rw [hb] at hh; injection hh with hh; injection hh with _ hh; exact absurd hh (by decide)
  refine ⟨rs ++ [r], by simp [hl], ?_, fun j x c hx hc => ?_⟩
  · rw [List.length_append, fileCells_app _ _ _ _ hl]
    exact ho
  · by_cases hj : j < fs.length
    · rw [List.getElem?_append_left (by omega)] at hx
      rw [List.getElem?_append_left hj] at hc
      exact key (hv j x c hx hc)
    · rw [List.getElem?_append_right (by omega)] at hx hc
      rw [hl] at hx
      have h0 : j - fs.length = 0 := by
        have := (List.getElem?_eq_some_iff.1 hc).1
        simp at this
        omega
      rw [h0] at hx hc
      simp only [List.getElem?_cons_zero, Option.some.injEq] at hx hc
      subst hx hc
      exact key hr
end
end Go.Proofs.YtadipinnbehhhaaGreatDoor
