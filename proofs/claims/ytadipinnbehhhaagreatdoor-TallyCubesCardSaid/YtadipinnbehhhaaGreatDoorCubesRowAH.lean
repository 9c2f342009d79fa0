/- Peek, over what load answers. The references' Records at the blocks that Blocks makes. Pointers to nodes: taken apart and put together, by the program and by the reference. Levels, what may point where; by the program and by the reference. Nodes: put together, compared, told from other records; by the program and by the reference. Builders as states. A builder: Done. A builder: Add. The law's model of a builder: what it is in memory. A disk without troubles that has room: what its calls come to; a writer over it and the records that it was given. The builder against the law's model: the same answers, whatever is asked; plain, no program in sight. The room's question: has the disk what it had and these files, no others? Where it is so: yes. What the law asks of its room, in the room's words. NodesBuilds: the plain facts of its start: the names, the limits, what Begin answers. Tapes that are read, plain: a tape on a disk without troubles; a reader over it and what is left to it. What a room has come to behind reads alone: so many reads more, so many records more in hand. -/
import Derived.OwnWalk
import Derived.Laws.Bits64
import Derived.Laws.Bits64b
import Derived.Deep.RegionHeld3
import Derived.Test.YtadipinnbehhhaaGreatDoorCubesRowAG
import Derived.Test.YtadipinnbehhhaaGreatDoorCubesRowAF
import Derived.Test.YtadipinnbehhhaaGreatDoorCubesRowAA
import Derived.Test.YtadipinnbehhhaaGreatDoorCubesRowAC
namespace Go.Proofs.YtadipinnbehhhaaGreatDoor
open Go.RowKit

set_option maxRecDepth 100000 in
set_option maxHeartbeats 1000000 in
theorem peek_none (b : Nat) (n : Int) (w : World) (Q : World → Prop)
    (hload : Calls Tryz.prog 201 #[.pointer (some ⟨b, 0, none⟩)] (w.alloc (.cells #[.int .u64 0, .int .u64 0, .int .u64 0, .int .u64 0] 111)) fun e w' => e = .returned (.tuple #[.bool false, .int .i64 n]) ∧ Blk w' w.heap.size 111 #[.int .u64 0, .int .u64 0, .int .u64 0, .int .u64 0] ∧ ∀ w2, Keep (fun x => x = w.heap.size) w' w2 → Q w2) :
    Calls Tryz.prog 164 #[.pointer (some ⟨b, 0, none⟩)] w fun e w' => e = .returned (.tuple #[.agg #[.int .u64 0, .int .u64 0, .int .u64 0, .int .u64 0], .bool false, .int .i64 n]) ∧ Q w' := by
  have HL := Hid.intro_ hload
  clear hload
  go_enter Tryz.func164, Tryz.ntmps164
  go_wp2_with fail
  refine HL.out.mono ?_
  rintro e w1 ⟨rfl, hb, hQ⟩
  have z0 : w1.cell? ⟨w.heap.size, 0, none⟩ = some (.int .u64 0) := hb.at_ 0
  have z1 : w1.cell? ⟨w.heap.size, 1, none⟩ = some (.int .u64 0) := hb.at_ 1
  have z2 : w1.cell? ⟨w.heap.size, 2, none⟩ = some (.int .u64 0) := hb.at_ 2
  have z3 : w1.cell? ⟨w.heap.size, 3, none⟩ = some (.int .u64 0) := hb.at_ 3
  have f0 := hb.fr 0
  have f1 := hb.fr 1
  have f2 := hb.fr 2
  have f3 := hb.fr 3
  go_wp2_with fail
  have kp := ((((Keep.refl (fun x => x = w.heap.size) w1).setCell (p := ⟨w.heap.size, 0, none⟩) (fun _ => rfl) (.int .u64 0)).setCell (p := ⟨w.heap.size, 1, none⟩) (fun _ => rfl) (.int .u64 0)).setCell (p := ⟨w.heap.size, 2, none⟩) (fun _ => rfl) (.int .u64 0)).setCell (p := ⟨w.heap.size, 3, none⟩) (fun _ => rfl) (.int .u64 0)
  have hb2 := (((hb.set_ 0 (.int .u64 0)).set_ 1 (.int .u64 0)).set_ 2 (.int .u64 0)).set_ 3 (.int .u64 0)
  have hq := hQ _ kp
  generalize (((w1.setCell ⟨w.heap.size, 0, none⟩ (.int .u64 0)).setCell ⟨w.heap.size, 1, none⟩ (.int .u64 0)).setCell ⟨w.heap.size, 2, none⟩ (.int .u64 0)).setCell ⟨w.heap.size, 3, none⟩ (.int .u64 0) = X at *
  have y0 : X.cell? ⟨w.heap.size, 0, none⟩ = some (.int .u64 0) := hb2.at_ 0
  have y1 : X.cell? ⟨w.heap.size, 1, none⟩ = some (.int .u64 0) := hb2.at_ 1
  have y2 : X.cell? ⟨w.heap.size, 2, none⟩ = some (.int .u64 0) := hb2.at_ 2
  have y3 : X.cell? ⟨w.heap.size, 3, none⟩ = some (.int .u64 0) := hb2.at_ 3
  refine bodyPost_ret (v := .tuple #[.agg #[.int .u64 0, .int .u64 0, .int .u64 0, .int .u64 0], .bool false, .int .i64 n]) (by simp [results, Tryz.results164, go_sem, y0, y1, y2, y3]) rfl ⟨rfl, hq⟩
set_option maxRecDepth 100000 in
set_option maxHeartbeats 1000000 in
theorem peek_some (b : Nat) (w : World) (Q : World → R4 → Prop)
    (hload : Calls Tryz.prog 201 #[.pointer (some ⟨b, 0, none⟩)] (w.alloc (.cells #[.int .u64 0, .int .u64 0, .int .u64 0, .int .u64 0] 111)) fun e w' => e = .returned (.tuple #[.bool true, .int .i64 0]) ∧ Blk w' w.heap.size 111 #[.int .u64 0, .int .u64 0, .int .u64 0, .int .u64 0] ∧
      ∃ g o L cap r, w'.cell? ⟨b, 3, none⟩ = some (.slice (some ⟨g, o, none⟩) L cap) ∧ 1 ≤ L ∧ Rd w' (some ⟨g, o, none⟩) (rcCells [r]) ∧ ∀ w2, Keep (fun x => x = w.heap.size) w' w2 → Q w2 r) :
    Calls Tryz.prog 164 #[.pointer (some ⟨b, 0, none⟩)] w fun e w' => ∃ r : R4, e = .returned (.tuple #[.agg #[.int .u64 r.a, .int .u64 r.b, .int .u64 r.c, .int .u64 r.d], .bool true, .int .i64 0]) ∧ Q w' r := by
  have HL := Hid.intro_ hload
  clear hload
  go_enter Tryz.func164, Tryz.ntmps164
  go_wp2_with fail
  refine HL.out.mono ?_
  rintro e w1 ⟨rfl, hb, g, o, L, cap, r, c3, hL, hr, hQ⟩
  have z0 : w1.cell? ⟨w.heap.size, 0, none⟩ = some (.int .u64 0) := hb.at_ 0
  have z1 : w1.cell? ⟨w.heap.size, 1, none⟩ = some (.int .u64 0) := hb.at_ 1
  have z2 : w1.cell? ⟨w.heap.size, 2, none⟩ = some (.int .u64 0) := hb.at_ 2
  have z3 : w1.cell? ⟨w.heap.size, 3, none⟩ = some (.int .u64 0) := hb.at_ 3
  have f0 := hb.fr 0
  have f1 := hb.fr 1
  have f2 := hb.fr 2
  have f3 := hb.fr 3
  have rd : ∀ (j : Nat) (u : Value), (rcCells [r])[j]? = some u → w1.cell? ⟨g, o + j, none⟩ = some u := fun j u hu => by
    obtain ⟨ad, e, hc⟩ := hr j u hu
    injection e with e
    subst e
    rw [add_at] at hc
    exact hc
  have r0 : w1.cell? ⟨g, o, none⟩ = some (.int .u64 r.a) := rd 0 _ rfl
  have r1 : w1.cell? ⟨g, o + 1, none⟩ = some (.int .u64 r.b) := rd 1 _ rfl
  have r2 : w1.cell? ⟨g, o + 2, none⟩ = some (.int .u64 r.c) := rd 2 _ rfl
  have r3 : w1.cell? ⟨g, o + 3, none⟩ = some (.int .u64 r.d) := rd 3 _ rfl
  have hL1 : (0 : Int) < (L : Int) := by omega
  clear rd hr
  go_wp2_with fail
  have kp := ((((Keep.refl (fun x => x = w.heap.size) w1).setCell (p := ⟨w.heap.size, 0, none⟩) (fun _ => rfl) (.int .u64 r.a)).setCell (p := ⟨w.heap.size, 1, none⟩) (fun _ => rfl) (.int .u64 r.b)).setCell (p := ⟨w.heap.size, 2, none⟩) (fun _ => rfl) (.int .u64 r.c)).setCell (p := ⟨w.heap.size, 3, none⟩) (fun _ => rfl) (.int .u64 r.d)
  have hb2 := (((hb.set_ 0 (.int .u64 r.a)).set_ 1 (.int .u64 r.b)).set_ 2 (.int .u64 r.c)).set_ 3 (.int .u64 r.d)
  have hq := hQ _ kp
  generalize (((w1.setCell ⟨w.heap.size, 0, none⟩ (.int .u64 r.a)).setCell ⟨w.heap.size, 1, none⟩ (.int .u64 r.b)).setCell ⟨w.heap.size, 2, none⟩ (.int .u64 r.c)).setCell ⟨w.heap.size, 3, none⟩ (.int .u64 r.d) = X at *
  have y0 : X.cell? ⟨w.heap.size, 0, none⟩ = some (.int .u64 r.a) := hb2.at_ 0
  have y1 : X.cell? ⟨w.heap.size, 1, none⟩ = some (.int .u64 r.b) := hb2.at_ 1
  have y2 : X.cell? ⟨w.heap.size, 2, none⟩ = some (.int .u64 r.c) := hb2.at_ 2
  have y3 : X.cell? ⟨w.heap.size, 3, none⟩ = some (.int .u64 r.d) := hb2.at_ 3
  refine bodyPost_ret (v := .tuple #[.agg #[.int .u64 r.a, .int .u64 r.b, .int .u64 r.c, .int .u64 r.d], .bool true, .int .i64 0]) (by simp [results, Tryz.results164, go_sem, y0, y1, y2, y3]) rfl ⟨r, rfl, hq⟩
end Go.Proofs.YtadipinnbehhhaaGreatDoor
namespace Go.Proofs.YtadipinnbehhhaaGreatDoor
open Go.RowKit

theorem own_some {w : World} {base n : Nat} {e : TypeId} {size : Nat} {v : Value} {xs : List Value} (h0 : 1 ≤ n) (h : w.ownsRow base e size v n xs) : ∃ g cap, v = .slice (some ⟨g, 0, none⟩) n cap ∧ n ≤ cap ∧ base ≤ g ∧ ∀ (j : Nat) (u : Value), xs[j]? = some u → w.cell? ((⟨g, 0, none⟩ : Addr).add j) = some u := by
  have h9 := h
  rcases h.2 with ⟨_, e0⟩ | ⟨g, cap, cur, e1, hb, hh, hle, hm, hs, ht⟩
  · omega
  · subst e1
    have hr := own_rd h9
    exact ⟨g, cap, rfl, hle, hb, fun j u hu => by obtain ⟨ad, e, hc⟩ := hr j u hu; injection e with e; subst e; exact hc⟩
end Go.Proofs.YtadipinnbehhhaaGreatDoor
namespace Go.Proofs.YtadipinnbehhhaaGreatDoor
open Go.RowKit

def sF (p : Nat) : Bool := decide (p = 9223372036854775808) || decide (p = 9223372036854775809)
def sV (p : Nat) : Bool := decide (p = 9223372036854775809)
def sIn (p : Nat) : Bool := !sF p && decide (p / 1099511627776 < 65536)
def sK (p : Nat) : Bool := sF p || decide (p / 1099511627776 < 65536)
def sL (p : Nat) : Int := if sIn p then ((p / 1099511627776 : Nat) : Int) else 0
def sI (p : Nat) : Int := if sIn p then ((p % 1099511627776 : Nat) : Int) else 0
def splitV (p : Nat) : Value := .tuple #[.int .i64 (sL p), .int .i64 (sI p), .bool (sF p), .bool (sV p), .bool (sK p)]
theorem and_low (p : Nat) (hp : p < 18446744073709551616) : bits .and .u64 (p : Int) 1099511627775 = ((p % 1099511627776 : Nat) : Int) := by
  have h := bits_and_u64_nat p 1099511627775 hp (by omega)
  have e : p &&& 1099511627775 = p % 1099511627776 := Nat.and_two_pow_sub_one_eq_mod p 40
  rw [e] at h
  exact h
theorem wrap_low (n : Int) (h : 0 ≤ n ∧ n < 9223372036854775808) : wrap64 n = n := by unfold wrap64; omega
theorem leaf_false : splitV 9223372036854775808 = .tuple #[.int .i64 0, .int .i64 0, .bool true, .bool false, .bool true] := by
  simp [splitV, sL, sI, sF, sV, sK, sIn]
theorem leaf_true : splitV 9223372036854775809 = .tuple #[.int .i64 0, .int .i64 0, .bool true, .bool true, .bool true] := by
  simp [splitV, sL, sI, sF, sV, sK, sIn]
theorem split_in {p : Nat} (h1 : ¬ p = 9223372036854775808) (h2 : ¬ p = 9223372036854775809) (h3 : p / 1099511627776 < 65536) :
    splitV p = .tuple #[.int .i64 ((p / 1099511627776 : Nat) : Int), .int .i64 ((p % 1099511627776 : Nat) : Int), .bool false, .bool false, .bool true] := by
  have e : sIn p = true := by unfold sIn sF; rw [decide_eq_false h1, decide_eq_false h2, decide_eq_true h3]; rfl
  unfold splitV sL sI
  rw [e]
  unfold sF sV sK sF
  rw [decide_eq_false h1, decide_eq_false h2, decide_eq_true h3]
  rfl
theorem split_out {p : Nat} (h1 : ¬ p = 9223372036854775808) (h2 : ¬ p = 9223372036854775809) (h3 : ¬ p / 1099511627776 < 65536) :
    splitV p = .tuple #[.int .i64 0, .int .i64 0, .bool false, .bool false, .bool false] := by
  have e : sIn p = false := by unfold sIn sF; rw [decide_eq_false h1, decide_eq_false h2, decide_eq_false h3]; rfl
  unfold splitV sL sI
  rw [e]
  unfold sF sV sK sF
  rw [decide_eq_false h1, decide_eq_false h2, decide_eq_false h3]
  rfl
set_option maxRecDepth 100000 in
set_option maxHeartbeats 1000000 in
theorem split_any (p : Nat) (hp : p < 18446744073709551616) (w : World) :
    Calls Tryz.prog 100 #[.int .u64 p] w fun e w' => e = .returned (splitV p) ∧ w' = w := by
  by_cases h1 : p = 9223372036854775808
  · subst h1
    rw [leaf_false]
    clear hp
    go_enter Tryz.func100, Tryz.ntmps100
    go_wp2
    exact bodyPost_ret (v := .tuple #[.int .i64 0, .int .i64 0, .bool true, .bool false, .bool true]) (by simp [results, Tryz.results100, go_sem]) rfl ⟨rfl, rfl⟩
  by_cases h2 : p = 9223372036854775809
  · subst h2
    rw [leaf_true]
    clear hp h1
    go_enter Tryz.func100, Tryz.ntmps100
    go_wp2
    exact bodyPost_ret (v := .tuple #[.int .i64 0, .int .i64 0, .bool true, .bool true, .bool true]) (by simp [results, Tryz.results100, go_sem]) rfl ⟨rfl, rfl⟩
  have q1 : ((p : Int) == 9223372036854775808) = false := by simp; omega
  have q2 : ((p : Int) == 9223372036854775809) = false := by simp; omega
  have hwr : IntKind.u64.wrap ((p : Int) / 1099511627776) = (p : Int) / 1099511627776 := by rw [IntKind.wrap_u64]; omega
  have hwm : IntKind.u64.wrap ((p : Int) % 1099511627776) = (p : Int) % 1099511627776 := by rw [IntKind.wrap_u64]; omega
  have hdv : wrap64 ((p : Int) / 1099511627776) = (p : Int) / 1099511627776 := wrap_low _ (by omega)
  have HP := Hid.intro_ hp
  by_cases h3 : p / 1099511627776 < 65536
  · rw [split_in h1 h2 h3]
    have q3 : decide ((p : Int) / 1099511627776 < 65536) = true := by simp; omega
    have hlow : wrap64 (bits .and .u64 (p : Int) 1099511627775) = ((p % 1099511627776 : Nat) : Int) := by rw [and_low p hp]; exact wrap_low _ (by omega)
    clear h1 h2 h3 hp
    go_enter Tryz.func100, Tryz.ntmps100
    go_wp2
    refine bodyPost_ret (v := .tuple #[.int .i64 ((p / 1099511627776 : Nat) : Int), .int .i64 ((p % 1099511627776 : Nat) : Int), .bool false, .bool false, .bool true]) (by simp [results, Tryz.results100, go_sem, hdv, hlow]) rfl ⟨rfl, rfl⟩
  · rw [split_out h1 h2 h3]
    have q3 : decide ((p : Int) / 1099511627776 < 65536) = false := by simp; omega
    clear h1 h2 h3 hp
    go_enter Tryz.func100, Tryz.ntmps100
    go_wp2
    exact bodyPost_ret (v := .tuple #[.int .i64 0, .int .i64 0, .bool false, .bool false, .bool false]) (by simp [results, Tryz.results100, go_sem]) rfl ⟨rfl, rfl⟩
set_option maxRecDepth 100000 in
set_option maxHeartbeats 1000000 in
theorem rsplit_any (p : Nat) (hp : p < 18446744073709551616) (w : World) :
    Calls Tryz.prog 82 #[.int .u64 p] w fun e w' => e = .returned (splitV p) ∧ w' = w := by
  by_cases h1 : p = 9223372036854775808
  · subst h1
    rw [leaf_false]
    clear hp
    go_enter Tryz.func82, Tryz.ntmps82
    go_wp2
    exact bodyPost_ret (v := .tuple #[.int .i64 0, .int .i64 0, .bool true, .bool false, .bool true]) (by simp [results, Tryz.results82, go_sem]) rfl ⟨rfl, rfl⟩
  by_cases h2 : p = 9223372036854775809
  · subst h2
    rw [leaf_true]
    clear hp h1
    go_enter Tryz.func82, Tryz.ntmps82
    go_wp2
    exact bodyPost_ret (v := .tuple #[.int .i64 0, .int .i64 0, .bool true, .bool true, .bool true]) (by simp [results, Tryz.results82, go_sem]) rfl ⟨rfl, rfl⟩
  have q1 : ((p : Int) == 9223372036854775808) = false := by simp; omega
  have q2 : ((p : Int) == 9223372036854775809) = false := by simp; omega
  have hwr : IntKind.u64.wrap ((p : Int) / 1099511627776) = (p : Int) / 1099511627776 := by rw [IntKind.wrap_u64]; omega
  have hwm : IntKind.u64.wrap ((p : Int) % 1099511627776) = (p : Int) % 1099511627776 := by rw [IntKind.wrap_u64]; omega
  have hdv : wrap64 ((p : Int) / 1099511627776) = (p : Int) / 1099511627776 := wrap_low _ (by omega)
  have HP := Hid.intro_ hp
  by_cases h3 : p / 1099511627776 < 65536
  · rw [split_in h1 h2 h3]
    have q3 : decide (65536 ≤ (p : Int) / 1099511627776) = false := by simp; omega
    clear h1 h2 h3 hp
    go_enter Tryz.func82, Tryz.ntmps82
    go_wp2
    refine bodyPost_ret (v := .tuple #[.int .i64 ((p / 1099511627776 : Nat) : Int), .int .i64 ((p % 1099511627776 : Nat) : Int), .bool false, .bool false, .bool true]) (by simp [results, Tryz.results82, go_sem, hdv]) rfl ⟨rfl, rfl⟩
  · rw [split_out h1 h2 h3]
    have q3 : decide (65536 ≤ (p : Int) / 1099511627776) = true := by simp; omega
    clear h1 h2 h3 hp
    go_enter Tryz.func82, Tryz.ntmps82
    go_wp2
    exact bodyPost_ret (v := .tuple #[.int .i64 0, .int .i64 0, .bool false, .bool false, .bool false]) (by simp [results, Tryz.results82, go_sem]) rfl ⟨rfl, rfl⟩
end Go.Proofs.YtadipinnbehhhaaGreatDoor
namespace Go.Proofs.YtadipinnbehhhaaGreatDoor
open Go.RowKit

theorem split_t (p : Nat) (hp : p < 18446744073709551616) (w : World) :
    Calls Tryz.prog 100 #[.int .u64 p] w fun e w' => e = .returned (.tuple #[.int .i64 (sL p), .int .i64 (sI p), .bool (sF p), .bool (sV p), .bool (sK p)]) ∧ w' = w := split_any p hp w
theorem rsplit_t (p : Nat) (hp : p < 18446744073709551616) (w : World) :
    Calls Tryz.prog 82 #[.int .u64 p] w fun e w' => e = .returned (.tuple #[.int .i64 (sL p), .int .i64 (sI p), .bool (sF p), .bool (sV p), .bool (sK p)]) ∧ w' = w := rsplit_any p hp w
def pLv (p : Nat) : Int := if sK p = true then (if sF p = true then 65536 else sL p) else -1
set_option maxHeartbeats 1000000 in
theorem level_any (p : Nat) (hp : p < 18446744073709551616) (w : World) :
    Calls Tryz.prog 95 #[.int .u64 p] w fun e w' => e = .returned (.int .i64 (pLv p)) ∧ w' = w := by
  have HP := Hid.intro_ hp
  clear hp
  cases hk : sK p
  · have e : pLv p = -1 := by unfold pLv; rw [if_neg (by simp [hk])]
    rw [e]
    go_enter Tryz.func95, Tryz.ntmps95
    go_wp2_with (go_at_call 100; refine (split_t p HP.out _).mono ?_; rintro e w' ⟨rfl, rfl⟩)
    go_ret
    exact ⟨rfl, rfl⟩
  cases hf : sF p
  · have e : pLv p = sL p := by unfold pLv; rw [if_pos hk, if_neg (by simp [hf])]
    rw [e]
    go_enter Tryz.func95, Tryz.ntmps95
    go_wp2_with (go_at_call 100; refine (split_t p HP.out _).mono ?_; rintro e w' ⟨rfl, rfl⟩)
    go_ret
    exact ⟨rfl, rfl⟩
  · have e : pLv p = 65536 := by unfold pLv; rw [if_pos hk, if_pos hf]
    rw [e]
    go_enter Tryz.func95, Tryz.ntmps95
    go_wp2_with (go_at_call 100; refine (split_t p HP.out _).mono ?_; rintro e w' ⟨rfl, rfl⟩)
    go_ret
    exact ⟨rfl, rfl⟩
def uN (p : Nat) (l n : Int) : Bool := decide (pLv p = 65536) || (decide (l < pLv p) && decide (pLv p < n))
set_option maxHeartbeats 1000000 in
theorem under_any (p : Nat) (l n : Int) (hp : p < 18446744073709551616) (w : World) :
    Calls Tryz.prog 137 #[.int .u64 p, .int .i64 l, .int .i64 n] w fun e w' => e = .returned (.bool (uN p l n)) ∧ w' = w := by
  have HP := Hid.intro_ hp
  clear hp
  unfold uN
  generalize hq : pLv p = q
  have HQ := Hid.intro_ hq
  clear hq
  by_cases h1 : q = 65536
  · have e1 : (q == 65536) = true := by simpa using h1
    rw [decide_eq_true h1, Bool.true_or]
    clear h1
    go_enter Tryz.func137, Tryz.ntmps137
    go_wp2_with (go_at_call 95; refine (level_any p HP.out _).mono ?_; rw [HQ.out]; rintro e w' ⟨rfl, rfl⟩)
    go_ret
    exact ⟨rfl, rfl⟩
  have e1 : (q == 65536) = false := by simpa using h1
  rw [decide_eq_false h1, Bool.false_or]
  clear h1
  by_cases h2 : l < q
  · rw [decide_eq_true h2, Bool.true_and]
    go_enter Tryz.func137, Tryz.ntmps137
    go_wp2_with (go_at_call 95; refine (level_any p HP.out _).mono ?_; rw [HQ.out]; rintro e w' ⟨rfl, rfl⟩)
    go_ret
    exact ⟨rfl, rfl⟩
  · rw [decide_eq_false h2, Bool.false_and]
    have h2' : decide (l < q) = false := decide_eq_false h2
    clear h2
    go_enter Tryz.func137, Tryz.ntmps137
    go_wp2_with (go_at_call 95; refine (level_any p HP.out _).mono ?_; rw [HQ.out]; rintro e w' ⟨rfl, rfl⟩)
    go_ret
    exact ⟨rfl, rfl⟩
def nOk (p : Nat) (n : Int) : Bool := sK p && !sF p && decide (sL p < n)
set_option maxHeartbeats 1000000 in
theorem node_any (p : Nat) (n : Int) (hp : p < 18446744073709551616) (w : World) :
    Calls Tryz.prog 153 #[.int .u64 p, .int .i64 n] w fun e w' => e = .returned (.tuple #[.int .i64 (if nOk p n = true then sL p else 0), .int .i64 (if nOk p n = true then sI p else 0), .bool (nOk p n)]) ∧ w' = w := by
  have HP := Hid.intro_ hp
  clear hp
  cases hk : sK p
  · have e : nOk p n = false := by simp [nOk, hk]
    rw [e]
    go_enter Tryz.func153, Tryz.ntmps153
    go_wp2_with (go_at_call 82; refine (rsplit_t p HP.out _).mono ?_; rintro e w' ⟨rfl, rfl⟩)
    go_ret3
    exact ⟨rfl, rfl⟩
  cases hf : sF p
  · by_cases hl : sL p < n
    · have e : nOk p n = true := by simp [nOk, hk, hf, hl]
      rw [e]
      go_enter Tryz.func153, Tryz.ntmps153
      go_wp2_with (go_at_call 82; refine (rsplit_t p HP.out _).mono ?_; rintro e w' ⟨rfl, rfl⟩)
      go_ret3
      exact ⟨rfl, rfl⟩
    · have e : nOk p n = false := by simp [nOk, hl]
      rw [e]
      go_enter Tryz.func153, Tryz.ntmps153
      go_wp2_with (go_at_call 82; refine (rsplit_t p HP.out _).mono ?_; rintro e w' ⟨rfl, rfl⟩)
      go_ret3
      exact ⟨rfl, rfl⟩
  · have e : nOk p n = false := by simp [nOk, hf]
    rw [e]
    go_enter Tryz.func153, Tryz.ntmps153
    go_wp2_with (go_at_call 82; refine (rsplit_t p HP.out _).mono ?_; rintro e w' ⟨rfl, rfl⟩)
    go_ret3
    exact ⟨rfl, rfl⟩
def rU (p : Nat) (l n : Int) : Bool := sF p || (nOk p n && decide (l < sL p))
set_option maxHeartbeats 1000000 in
theorem runder_any (p : Nat) (l n : Int) (hp : p < 18446744073709551616) (w : World) :
    Calls Tryz.prog 156 #[.int .u64 p, .int .i64 l, .int .i64 n] w fun e w' => e = .returned (.bool (rU p l n)) ∧ w' = w := by
  have HP := Hid.intro_ hp
  have hc := hp
  clear hp hc
  unfold rU
  by_cases h1 : p = 9223372036854775808
  · have e : sF p = true := by subst h1; rfl
    have q : ((p : Int) == 9223372036854775808) = true := by simp; omega
    rw [e, Bool.true_or]
    clear h1
    go_enter Tryz.func156, Tryz.ntmps156
    go_wp2
    go_ret
    exact ⟨rfl, rfl⟩
  have q1 : ((p : Int) == 9223372036854775808) = false := by simp; omega
  by_cases h2 : p = 9223372036854775809
  · have e : sF p = true := by subst h2; rfl
    have q : ((p : Int) == 9223372036854775809) = true := by simp; omega
    rw [e, Bool.true_or]
    clear h1 h2
    go_enter Tryz.func156, Tryz.ntmps156
    go_wp2
    go_ret
    exact ⟨rfl, rfl⟩
  have q2 : ((p : Int) == 9223372036854775809) = false := by simp; omega
  have e : sF p = false := by unfold sF; rw [decide_eq_false h1, decide_eq_false h2]; rfl
  rw [e, Bool.false_or]
  clear h1 h2 e
  cases hk : nOk p n
  · have hn := node_any p n HP.out
    rw [hk] at hn
    rw [Bool.false_and]
    go_enter Tryz.func156, Tryz.ntmps156
    go_wp2_with (go_at_call 153; refine (hn _).mono ?_; rintro e w' ⟨rfl, rfl⟩)
    go_ret
    exact ⟨rfl, rfl⟩
  · have hn := node_any p n HP.out
    rw [hk] at hn
    rw [Bool.true_and]
    go_enter Tryz.func156, Tryz.ntmps156
    go_wp2_with (go_at_call 153; refine (hn _).mono ?_; rintro e w' ⟨rfl, rfl⟩)
    go_ret
    exact ⟨rfl, rfl⟩
theorem sL_lt (p : Nat) : 0 ≤ sL p ∧ sL p < 65536 := by
  unfold sL sIn
  split
  · rename_i h
    simp at h
    omega
  · omega
theorem under_same (p : Nat) (l n : Int) (hl : 0 ≤ l) : rU p l n = uN p l n := by
  unfold rU uN pLv nOk
  have := sL_lt p
  cases hf : sF p
  · cases hk : sK p
    · have h2 : decide (l < -1) = false := by simp; omega
      simp [h2]
    · have h2 : decide (sL p = 65536) = false := by simp; omega
      simp [h2, Bool.and_comm]
  · have hk : sK p = true := by simp [sK, hf]
    simp [hk]
end Go.Proofs.YtadipinnbehhhaaGreatDoor
namespace Go.Proofs.YtadipinnbehhhaaGreatDoor
open Go.RowKit

def ndV (s l h : Nat) : Value := .agg #[.int .u64 s, .int .u64 l, .int .u64 h]
def rcV (a b c d : Nat) : Value := .agg #[.int .u64 a, .int .u64 b, .int .u64 c, .int .u64 d]
set_option maxHeartbeats 1000000 in
theorem first_any (s l h : Nat) (hs : s < 18446744073709551616) (w : World) :
    Calls Tryz.prog 134 #[ndV s l h] w fun e w' => e = .returned (.bool (sI s == 0)) ∧ Keep Nil w w' := by
  have HS := Hid.intro_ hs
  clear hs
  unfold ndV
  go_enter Tryz.func134, Tryz.ntmps134
  go_wp2_with (go_at_call 100; refine (split_t s HS.out _).mono ?_; rintro e w' ⟨rfl, rfl⟩)
  go_ret
  exact ⟨rfl, (Keep.refl Nil w).alloc _⟩
def bhd (tl th sl sh : Nat) : Bool := decide (sl < tl) || (decide (tl = sl) && decide (sh < th))
set_option maxHeartbeats 1000000 in
theorem behind_any (t tl th s sl sh : Nat) (w : World) :
    Calls Tryz.prog 138 #[ndV t tl th, ndV s sl sh] w fun e w' => e = .returned (.bool (bhd tl th sl sh)) ∧ Keep Nil w w' := by
  unfold ndV bhd
  have hk := ((Keep.refl Nil w).alloc (.cells #[.int .u64 t, .int .u64 tl, .int .u64 th] 46)).alloc (.cells #[.int .u64 s, .int .u64 sl, .int .u64 sh] 46)
  by_cases h1 : sl < tl
  · rw [decide_eq_true h1, Bool.true_or]
    have q1 : decide (sl < tl) = true := decide_eq_true h1
    clear h1
    go_enter Tryz.func138, Tryz.ntmps138
    go_wp2
    go_ret
    exact ⟨rfl, hk⟩
  rw [decide_eq_false h1, Bool.false_or]
  have q1 : decide (sl < tl) = false := decide_eq_false h1
  by_cases h2 : tl = sl
  · rw [decide_eq_true h2, Bool.true_and]
    have q2 : (tl == sl) = true := by simpa using h2
    have q2' : ((tl : Int) == (sl : Int)) = true := by simp; omega
    clear h1 h2
    go_enter Tryz.func138, Tryz.ntmps138
    go_wp2
    go_ret
    exact ⟨rfl, hk⟩
  · rw [decide_eq_false h2, Bool.false_and]
    have q2 : (tl == sl) = false := by simpa using h2
    have q2' : ((tl : Int) == (sl : Int)) = false := by simp; omega
    clear h1 h2
    go_enter Tryz.func138, Tryz.ntmps138
    go_wp2
    go_ret
    exact ⟨rfl, hk⟩
set_option maxHeartbeats 1000000 in
theorem rbehind_any (t tl th s sl sh : Nat) (w : World) :
    Calls Tryz.prog 142 #[ndV t tl th, ndV s sl sh] w fun e w' => e = .returned (.bool (bhd tl th sl sh)) ∧ Keep Nil w w' := by
  unfold ndV bhd
  have hk := ((Keep.refl Nil w).alloc (.cells #[.int .u64 t, .int .u64 tl, .int .u64 th] 46)).alloc (.cells #[.int .u64 s, .int .u64 sl, .int .u64 sh] 46)
  by_cases h1 : sl < tl
  · rw [decide_eq_true h1, Bool.true_or]
    have q1 : decide (sl < tl) = true := decide_eq_true h1
    clear h1
    go_enter Tryz.func142, Tryz.ntmps142
    go_wp2
    go_ret
    exact ⟨rfl, hk⟩
  rw [decide_eq_false h1, Bool.false_or]
  have q1 : decide (sl < tl) = false := decide_eq_false h1
  by_cases h2 : tl = sl
  · rw [decide_eq_true h2, Bool.true_and]
    have q2 : (tl == sl) = true := by simpa using h2
    have q2' : ((tl : Int) == (sl : Int)) = true := by simp; omega
    clear h1 h2
    go_enter Tryz.func142, Tryz.ntmps142
    go_wp2
    go_ret
    exact ⟨rfl, hk⟩
  · rw [decide_eq_false h2, Bool.false_and]
    have q2 : (tl == sl) = false := by simpa using h2
    have q2' : ((tl : Int) == (sl : Int)) = false := by simp; omega
    clear h1 h2
    go_enter Tryz.func142, Tryz.ntmps142
    go_wp2
    go_ret
    exact ⟨rfl, hk⟩
def isN (a b c d : Nat) (n : Int) : Bool := nOk a n && decide (d = 0) && !decide (b = c) && rU b (sL a) n && rU c (sL a) n
set_option maxRecDepth 100000 in
set_option maxHeartbeats 2000000 in
theorem isNode_any (a b c d : Nat) (n : Int) (ha : a < 18446744073709551616) (hb : b < 18446744073709551616) (hc : c < 18446744073709551616) (w : World) :
    Calls Tryz.prog 81 #[rcV a b c d, .int .i64 n] w fun e w' => e = .returned (.tuple #[if isN a b c d n = true then ndV a b c else ndV 0 0 0, .bool (isN a b c d n)]) ∧ Keep Nil w w' := by
  obtain ⟨ans, hans⟩ : ∃ v, v = Value.tuple #[if isN a b c d n = true then ndV a b c else ndV 0 0 0, .bool (isN a b c d n)] := ⟨_, rfl⟩
  rw [← hans]
  have HA := Hid.intro_ hans
  have hn := node_any a n ha
  have hu := runder_any b (sL a) n hb
  have hu2 := runder_any c (sL a) n hc
  clear ha hb hc hans
  unfold rcV
  cases h1 : nOk a n
  · have HE := Hid.intro_ (show isN a b c d n = false by simp [isN, h1])
    rw [h1] at hn
    clear h1
    go_enter Tryz.func81, Tryz.ntmps81
    go_wp2_with (first
      | (go_at_call 153; refine (hn _).mono ?_; rintro e w' ⟨rfl, rfl⟩)
      | (go_at_call 156; with_reducible refine (hu _).mono ?_; rintro e w' ⟨rfl, rfl⟩)
      | (go_at_call 156; with_reducible refine (hu2 _).mono ?_; rintro e w' ⟨rfl, rfl⟩))
    refine bodyPost_ret (v := .tuple #[.agg #[.int .u64 0, .int .u64 0, .int .u64 0], .bool false]) (by simp [results, Tryz.results81, go_sem]) rfl ⟨by rw [HA.out, HE.out]; rfl, (((Keep.refl Nil _).alloc _).alloc _).alloc _⟩
  rw [h1] at hn
  by_cases h2 : d = 0
  · subst h2
    by_cases h3 : b = c
    · subst h3
      have HE := Hid.intro_ (show isN a b b 0 n = false by simp [isN])
      clear h1
      go_enter Tryz.func81, Tryz.ntmps81
      go_wp2_with (first
        | (go_at_call 153; refine (hn _).mono ?_; rintro e w' ⟨rfl, rfl⟩)
        | (go_at_call 156; with_reducible refine (hu _).mono ?_; rintro e w' ⟨rfl, rfl⟩)
        | (go_at_call 156; with_reducible refine (hu2 _).mono ?_; rintro e w' ⟨rfl, rfl⟩))
      refine bodyPost_ret (v := .tuple #[.agg #[.int .u64 0, .int .u64 0, .int .u64 0], .bool false]) (by simp [results, Tryz.results81, go_sem]) rfl ⟨by rw [HA.out, HE.out]; rfl, (((Keep.refl Nil _).alloc _).alloc _).alloc _⟩
    · have q3 : (b == c) = false := by simpa using h3
      have q3' : ((b : Int) == (c : Int)) = false := by simp; omega
      cases h4 : rU b (sL a) n
      · have HE := Hid.intro_ (show isN a b c 0 n = false by simp [isN, h4])
        rw [h4] at hu
        clear h1 h4
        go_enter Tryz.func81, Tryz.ntmps81
        go_wp2_with (first
          | (go_at_call 153; refine (hn _).mono ?_; rintro e w' ⟨rfl, rfl⟩)
          | (go_at_call 156; with_reducible refine (hu _).mono ?_; rintro e w' ⟨rfl, rfl⟩)
          | (go_at_call 156; with_reducible refine (hu2 _).mono ?_; rintro e w' ⟨rfl, rfl⟩))
        refine bodyPost_ret (v := .tuple #[.agg #[.int .u64 0, .int .u64 0, .int .u64 0], .bool false]) (by simp [results, Tryz.results81, go_sem]) rfl ⟨by rw [HA.out, HE.out]; rfl, (((Keep.refl Nil _).alloc _).alloc _).alloc _⟩
      · rw [h4] at hu
        cases h5 : rU c (sL a) n
        · have HE := Hid.intro_ (show isN a b c 0 n = false by simp [isN, h5])
          rw [h5] at hu2
          clear h1 h4 h5
          go_enter Tryz.func81, Tryz.ntmps81
          go_wp2_with (first
            | (go_at_call 153; refine (hn _).mono ?_; rintro e w' ⟨rfl, rfl⟩)
            | (go_at_call 156; with_reducible refine (hu _).mono ?_; rintro e w' ⟨rfl, rfl⟩)
            | (go_at_call 156; with_reducible refine (hu2 _).mono ?_; rintro e w' ⟨rfl, rfl⟩))
          refine bodyPost_ret (v := .tuple #[.agg #[.int .u64 0, .int .u64 0, .int .u64 0], .bool false]) (by simp [results, Tryz.results81, go_sem]) rfl ⟨by rw [HA.out, HE.out]; rfl, (((Keep.refl Nil _).alloc _).alloc _).alloc _⟩
        · have HE := Hid.intro_ (show isN a b c 0 n = true by simp [isN, h1, h3, h4, h5])
          rw [h5] at hu2
          clear h1 h4 h5
          go_enter Tryz.func81, Tryz.ntmps81
          go_wp2_with (first
            | (go_at_call 153; refine (hn _).mono ?_; rintro e w' ⟨rfl, rfl⟩)
            | (go_at_call 156; with_reducible refine (hu _).mono ?_; rintro e w' ⟨rfl, rfl⟩)
            | (go_at_call 156; with_reducible refine (hu2 _).mono ?_; rintro e w' ⟨rfl, rfl⟩))
          refine bodyPost_ret (v := .tuple #[.agg #[.int .u64 a, .int .u64 b, .int .u64 c], .bool true]) (by simp [results, Tryz.results81, go_sem]) rfl ⟨by rw [HA.out, HE.out]; rfl, (((Keep.refl Nil _).alloc _).alloc _).alloc _⟩
  · have HE := Hid.intro_ (show isN a b c d n = false by simp [isN, h2])
    have q2 : ((d : Int) == 0) = false := by simp; omega
    have q2' : (d == 0) = false := by simpa using h2
    clear h1 h2
    go_enter Tryz.func81, Tryz.ntmps81
    go_wp2_with (first
      | (go_at_call 153; refine (hn _).mono ?_; rintro e w' ⟨rfl, rfl⟩)
      | (go_at_call 156; with_reducible refine (hu _).mono ?_; rintro e w' ⟨rfl, rfl⟩)
      | (go_at_call 156; with_reducible refine (hu2 _).mono ?_; rintro e w' ⟨rfl, rfl⟩))
    refine bodyPost_ret (v := .tuple #[.agg #[.int .u64 0, .int .u64 0, .int .u64 0], .bool false]) (by simp [results, Tryz.results81, go_sem]) rfl ⟨by rw [HA.out, HE.out]; rfl, (((Keep.refl Nil _).alloc _).alloc _).alloc _⟩
end Go.Proofs.YtadipinnbehhhaaGreatDoor
namespace Go.Proofs.YtadipinnbehhhaaGreatDoor
open Go.RowKit

structure N3 where
  self : Nat
  low : Nat
  high : Nat
def N3.rec4 (n : N3) : R4 := ⟨n.self, n.low, n.high, 0⟩
structure BSt where
  vars : Nat
  last : N3
  some_ : Bool
  dead : Int
  done : Bool
section
variable {c : Cx} {w w' w2 w0 : World} {bb b : Nat} {G G' : Nat → Prop} {s s' s2 : RSt} {x x' x2 : WSt} {y y' y2 : BSt}
end

end Go.Proofs.YtadipinnbehhhaaGreatDoor
namespace Go.Proofs.YtadipinnbehhhaaGreatDoor
open Go.RowKit

section
variable (c : Cx) (w : World) (bb b : Nat) (G : Nat → Prop) (s : RSt) (x : WSt) (y : BSt) (root : Nat)

end
end Go.Proofs.YtadipinnbehhhaaGreatDoor
namespace Go.Proofs.YtadipinnbehhhaaGreatDoor
open Go.RowKit

section
variable (c : Cx) (w : World) (bb b : Nat) (G : Nat → Prop) (s : RSt) (x : WSt) (y : BSt) (level : Int) (low high : Nat)

end
end Go.Proofs.YtadipinnbehhhaaGreatDoor
namespace Go.Proofs.YtadipinnbehhhaaGreatDoor
open Go.RowKit

structure Mo where
  vars : Nat
  last : N3
  any : Bool
  done : Bool
  recs : List R4
end Go.Proofs.YtadipinnbehhhaaGreatDoor
namespace Go.Proofs.YtadipinnbehhhaaGreatDoor
open Go.RowKit

structure Calm (D : DSt) (block : Int) (fs : List (ByteArray × AFile)) : Prop where
  on : D.on = true
  block : D.block = block
  room : 1073741824 ≤ D.room
  trs : D.trs = []
  files : D.files = fs
  used : D.used = total fs
section
variable {D : DSt} {block : Int} {fs : List (ByteArray × AFile)} {s : ByteArray} {f : AFile} {bs : List Int}

theorem Calm.fate (h : Calm D block fs) (b : Bool) : D.fate b = .done := by
  unfold DSt.fate DSt.hit
  rw [h.trs]
  rfl
end

section
variable {c : Cx} {fs : List (ByteArray × AFile)} {name : ByteArray} {s : RSt} {x : WSt} {recs : List R4}
end
end Go.Proofs.YtadipinnbehhhaaGreatDoor
namespace Go.Proofs.YtadipinnbehhhaaGreatDoor
open Go.RowKit

section
variable {c : Cx} {fs : List (ByteArray × AFile)} {name : ByteArray} {s : RSt} {x : WSt} {y : BSt} {m : Mo} {n lim : Nat} {level id : Int} {low high root : Nat}

end
end Go.Proofs.YtadipinnbehhhaaGreatDoor
namespace Go.Proofs.YtadipinnbehhhaaGreatDoor
open Go.RowKit

def rest (gs ws : List (ByteArray × AFile)) : List (ByteArray × AFile) := gs.filter fun g => ws.all fun x => decide (¬ g.1 = x.1)
end Go.Proofs.YtadipinnbehhhaaGreatDoor
namespace Go.Proofs.YtadipinnbehhhaaGreatDoor
open Go.RowKit

section
variable {c : Cx} {w w' : World} {G : Nat → Prop} {s : RSt} {H H2 : Nat → Prop} {v vw : Value} {fs gs wants : List (ByteArray × AFile)}

theorem used_rm (h : RmAt c w G s) : Calls Tryz.prog 64 #[.pointer (some ⟨c.p, 0, none⟩)] w fun e w' => e = .returned (.int .i64 (s.S.hand + s.S.parts)) ∧ RmTo c G s w w' := by
  obtain ⟨F, rfl, hd⟩ := h.out
  exact (used_any c.p c.lk c.of s.S w hd.purse).mono fun _ _ ⟨he, ht, k⟩ => ⟨he, h.step (hd.at_purse ht k) rfl⟩
theorem room_k (h : RmAt c w G s) : Calls Tryz.prog 61 #[.pointer (some ⟨c.k, 0, none⟩)] w fun e w' => e = .returned (.int .i64 c.K) ∧ w' = w := k_any c.k _ _ c.K s.next w h.desk
end
end Go.Proofs.YtadipinnbehhhaaGreatDoor
namespace Go.Proofs.YtadipinnbehhhaaGreatDoor
open Go.RowKit

theorem fit_K {a : Int} (ha : 0 ≤ a ∧ a ≤ 8) : fit (64 + 32 * a) = 1 + a := by
  unfold fit
  rw [if_neg (by omega)]
  omega
section
variable {block : Nat}
theorem blocksB_size (kind : Nat) (l : List R4) {F : Nat} (hF : fit block = F) (h0 : 0 < F) (b : List Int) (hb : b ∈ blocksB kind l block) : b.length = block := by
  unfold fit at hF
  split at hF
  · omega
  unfold blocksB at hb
  obtain ⟨k, _, rfl⟩ := List.mem_map.1 hb
  refine encB_len ?_
  rw [chunk_len]
  omega
theorem blocksB_bytes (kind : Nat) (l : List R4) (hk : 1 ≤ kind ∧ kind ≤ 255) (b : List Int) (hb : b ∈ blocksB kind l block) : ∀ x ∈ b, 0 ≤ x ∧ x ≤ 255 := by
  unfold blocksB at hb
  obtain ⟨k, _, rfl⟩ := List.mem_map.1 hb
  exact encB_range (by omega)
theorem blocksB_len (kind : Nat) (l : List R4) : (blocksB kind l block).length = nblk (block / 32 - 1) l.length := by simp [blocksB]
theorem nblk_le (F n : Nat) (hF : 0 < F) : nblk F n ≤ n := by
  unfold nblk
  by_cases h : n = 0
  · rw [h, Nat.div_eq_of_lt (by omega)]; exact Nat.le_refl _
  · rw [Nat.div_le_iff_le_mul_add_pred hF]
    have : n * 1 ≤ F * n := by rw [Nat.mul_comm]; exact Nat.mul_le_mul_right _ hF
    omega
end

theorem mount_calm30 (block : Int) (fs : List (ByteArray × AFile)) : Calm (mountD block 1073741824 fs) block fs := ⟨rfl, rfl, Int.le_refl _, rfl, rfl, rfl⟩
end Go.Proofs.YtadipinnbehhhaaGreatDoor
namespace Go.Proofs.YtadipinnbehhhaaGreatDoor
open Go.RowKit

def DSt.readsN : Nat → DSt → DSt
  | 0, D => D
  | n + 1, D => (readsN n D).numbered.readOne
theorem DSt.readsN_add (m n : Nat) (D : DSt) : DSt.readsN m (DSt.readsN n D) = DSt.readsN (m + n) D := by
  induction m with
  | zero => rw [Nat.zero_add]; rfl
  | succ m ih => rw [Nat.succ_add]; show (DSt.readsN m (DSt.readsN n D)).numbered.readOne = (DSt.readsN (m + n) D).numbered.readOne; rw [ih]
theorem Calm.readOne {D : DSt} {block : Int} {fs : List (ByteArray × AFile)} (h : Calm D block fs) : Calm D.numbered.readOne block fs := ⟨h.on, h.block, h.room, h.trs, h.files, h.used⟩
theorem Calm.readsN {D : DSt} {block : Int} {fs : List (ByteArray × AFile)} (h : Calm D block fs) : ∀ n, Calm (D.readsN n) block fs
  | 0 => h
  | n + 1 => (Calm.readsN h n).readOne
structure TapeOn (c : Cx) (fs : List (ByteArray × AFile)) (name : ByteArray) (kind : Nat) (L : List R4) : Prop where
  ok : okName name = true
  pos : ∃ i, fpos name fs = some (i, ⟨true, blocksB kind L c.block⟩)
  oks : ∀ r ∈ L, r.Ok
  le : L.length ≤ 1099511627776
  kind : 1 ≤ kind ∧ kind ≤ 255
section
variable {c : Cx} {fs : List (ByteArray × AFile)} {name : ByteArray} {kind : Nat} {L rem : List R4} {D : DSt} {x : RdSt} {back : Bool} {q : Nat}

theorem TapeOn.perr (t : TapeOn c fs name kind L) (h : Calm D c.block fs) : D.perr name = none := by
  obtain ⟨i, hp⟩ := t.pos
  unfold DSt.perr DSt.ferr
  rw [h.on, t.ok, h.files, hp]
  simp
theorem TapeOn.length (t : TapeOn c fs name kind L) (h : Calm D c.block fs) : D.length name = (((blocksB kind L c.block).length : Int), true, 0) := by
  obtain ⟨i, hp⟩ := t.pos
  unfold DSt.length
  rw [t.perr h, h.files, hp]
theorem TapeOn.readable (t : TapeOn c fs name kind L) (h : Calm D c.block fs) : D.readable name = (((blocksB kind L c.block).length : Int), 0) := by
  unfold DSt.readable
  rw [t.length h]
  rw [if_neg (by simp)]
theorem TapeOn.read (t : TapeOn c fs name kind L) (h : Calm D c.block fs) {k : Nat} (hk : k < (blocksB kind L c.block).length) : D.read name k = (D.readsN 1, 0, (blocksB kind L c.block)[k]?) := by
  obtain ⟨i, hp⟩ := t.pos
  unfold DSt.read
  rw [t.perr h, h.files, hp]
  simp only
  rw [if_neg (by simp), if_neg (by omega), h.fate]
  simp only [Int.toNat_natCast]
  rfl
theorem fit_div {block K : Nat} (h : fit block = K) (h0 : 0 < K) : block / 32 - 1 = K ∧ 64 ≤ block ∧ block ≤ 65536 ∧ block % 32 = 0 ∧ 32 * K + 32 ≤ block := by
  unfold fit at h
  split at h <;> omega
theorem blocks_at {block : Nat} {k K : Nat} (hK : block / 32 - 1 = K) (hk : k < nblk K L.length) : (blocksB kind L block)[k]? = some (encB kind k (chunk K k L) block) := by
  unfold blocksB
  rw [hK, List.getElem?_map, List.getElem?_range hk]
  rfl
theorem chunk_oks {K k : Nat} (h : ∀ r ∈ L, r.Ok) : ∀ r ∈ chunk K k L, r.Ok := fun r hr => h r (List.mem_of_mem_drop (List.mem_of_mem_take hr))
theorem chunk_drop (K k : Nat) (L : List R4) : L.drop (k * K) = chunk K k L ++ L.drop ((k + 1) * K) := by
  unfold chunk
  rw [Nat.add_mul, Nat.one_mul, ← List.drop_drop, List.take_append_drop]
theorem chunk_take (K k : Nat) (L : List R4) : L.take ((k + 1) * K) = L.take (k * K) ++ chunk K k L := by
  unfold chunk
  rw [Nat.add_mul, Nat.one_mul, List.take_add]
theorem nblk_end {K : Nat} (hK : 0 < K) (n : Nat) : n ≤ nblk K n * K := by
  rcases Nat.lt_or_ge (nblk K n * K) n with h | h
  · exact absurd ((nblk_lt hK).2 h) (Nat.lt_irrefl _)
  · exact h
structure RdLive (c : Cx) (name : ByteArray) (kind : Nat) (L : List R4) (back : Bool) (x : RdSt) (q : Nat) (rem : List R4) : Prop where
  nm : x.name = name
  kd : x.kind = kind
  dd : x.dead = 0
  dn : x.done = false
  bk : x.back = back
  blocks : x.blocks = (nblk c.K L.length : Nat)
  le : q ≤ nblk c.K L.length
  place : x.place = if back then (q : Int) - 1 else ((nblk c.K L.length : Nat) : Int) - q
  rm : rem = if back then x.list ++ (L.take (q * c.K)).reverse else x.list ++ L.drop ((nblk c.K L.length - q) * c.K)
theorem RdLive.more (h : RdLive c name kind L back x q rem) (hK : 0 < c.K) (hl : x.list = []) (hq : 0 < q) :
    ∃ k : Nat, x.place = k ∧ k < nblk c.K L.length ∧ 1 ≤ (chunk c.K k L).length ∧ (chunk c.K k L).length ≤ c.K ∧ ((chunk c.K k L).length < c.K → k + 1 = nblk c.K L.length) ∧
      RdLive c name kind L back { x with list := if back then (chunk c.K k L).reverse else chunk c.K k L, place := if back then x.place - 1 else x.place + 1 } (q - 1) rem := by
  have hqn := h.le
  have hr := h.rm
  rw [hl] at hr
  have hp := h.place
  have key : ∀ k, k < nblk c.K L.length → 1 ≤ (chunk c.K k L).length ∧ (chunk c.K k L).length ≤ c.K ∧ ((chunk c.K k L).length < c.K → k + 1 = nblk c.K L.length) := fun k hk => by
    have h1 := (nblk_lt hK).1 hk
    rw [chunk_len]
    refine ⟨by omega, by omega, fun h2 => ?_⟩
    rcases Nat.lt_or_ge (k + 1) (nblk c.K L.length) with h3 | h3
    · have h4 := (nblk_lt hK).1 h3
      rw [Nat.add_mul] at h4
      omega
    · omega
  cases back with
  | true =>
    simp only [if_true] at hp hr
    obtain ⟨k1, k2, k3⟩ := key (q - 1) (by omega)
    refine ⟨q - 1, by omega, by omega, k1, k2, k3, ⟨h.nm, h.kd, h.dd, h.dn, h.bk, h.blocks, by omega, ?_, ?_⟩⟩
    · simp only [if_true]; omega
    · simp only [if_true]
      rw [hr, List.nil_append, ← List.reverse_append, ← chunk_take, show q - 1 + 1 = q by omega]
  | false =>
    simp only [Bool.false_eq_true, if_false] at hp hr
    obtain ⟨k1, k2, k3⟩ := key (nblk c.K L.length - q) (by omega)
    refine ⟨nblk c.K L.length - q, by omega, by omega, k1, k2, k3, ⟨h.nm, h.kd, h.dd, h.dn, h.bk, h.blocks, by omega, ?_, ?_⟩⟩
    · simp only [Bool.false_eq_true, if_false]; omega
    · simp only [Bool.false_eq_true, if_false]
      rw [hr, List.nil_append, chunk_drop, show nblk c.K L.length - (q - 1) = nblk c.K L.length - q + 1 by omega]
theorem RdLive.held (h : RdLive c name kind L back x 0 rem) (hK : 0 < c.K) : rem = x.list := by
  have hr := h.rm
  cases back with
  | true =>
    simp only [if_true, Nat.zero_mul, List.take_zero, List.reverse_nil, List.append_nil] at hr
    exact hr
  | false =>
    simp only [Bool.false_eq_true, if_false, Nat.sub_zero] at hr
    rw [List.drop_eq_nil_of_le (nblk_end hK _), List.append_nil] at hr
    exact hr
theorem RdLive.last (h : RdLive c name kind L back x 0 rem) : x.place < 0 ∨ (0 ≤ x.place ∧ x.blocks ≤ x.place) := by
  have hp := h.place
  have hb := h.blocks
  cases back with
  | true => simp only [if_true] at hp; omega
  | false => simp only [Bool.false_eq_true, if_false] at hp; omega
theorem RdLive.took {r : R4} {l : List R4} (h : RdLive c name kind L back x q rem) (hl : x.list = r :: l) : ∃ rest, rem = r :: rest ∧ RdLive c name kind L back { x with list := l } q rest := by
  have hr := h.rm
  rw [hl] at hr
  cases back with
  | true =>
    simp only [if_true, List.cons_append] at hr
    exact ⟨_, hr, ⟨h.nm, h.kd, h.dd, h.dn, h.bk, h.blocks, h.le, h.place, by simp only [if_true]⟩⟩
  | false =>
    simp only [Bool.false_eq_true, if_false, List.cons_append] at hr
    exact ⟨_, hr, ⟨h.nm, h.kd, h.dd, h.dn, h.bk, h.blocks, h.le, h.place, by simp only [Bool.false_eq_true, if_false]⟩⟩
theorem RdLive.st (h : RdLive c name kind L back x q rem) : stSt x.done x.dead = 0 := by
  unfold stSt
  rw [h.dn, h.dd]
  rfl
theorem RdLive.fresh (name : ByteArray) (kind : Nat) (L : List R4) (back : Bool) (n : Nat) (hK : 0 < c.K) (hn : n = nblk c.K L.length) :
    RdLive c name kind L back { name := name, kind := kind, dead := 0, done := false, back := back, blocks := (n : Int), place := if back then (n : Int) - 1 else 0, list := [] } n (if back then L.reverse else L) := by
  subst hn
  cases back with
  | true =>
    refine ⟨rfl, rfl, rfl, rfl, rfl, rfl, Nat.le_refl _, rfl, ?_⟩
    simp only [if_true, List.nil_append]
    rw [List.take_of_length_le (nblk_end hK _)]
  | false =>
    refine ⟨rfl, rfl, rfl, rfl, rfl, rfl, Nat.le_refl _, by simp, ?_⟩
    simp
end
end Go.Proofs.YtadipinnbehhhaaGreatDoor
namespace Go.Proofs.YtadipinnbehhhaaGreatDoor
open Go.RowKit

structure Went (j : Nat) (h : Int) (s s' : RSt) : Prop where
  D : s'.D = s.D.readsN j
  next : s'.next = s.next
  limit : s'.S.limit = s.S.limit
  hand : s'.S.hand = s.S.hand + h
  parts : s'.S.parts = s.S.parts
  opn : s'.S.opn = s.S.opn
  closed : s'.S.closed = s.S.closed
section
variable {s s' s2 : RSt} {j j2 : Nat} {h h2 : Int}
theorem Went.refl (s : RSt) : Went 0 0 s s := ⟨rfl, rfl, rfl, by omega, rfl, rfl, rfl⟩
theorem Went.trans (a : Went j h s s') (b : Went j2 h2 s' s2) : Went (j2 + j) (h + h2) s s2 :=
  ⟨by rw [b.D, a.D, DSt.readsN_add], b.next.trans a.next, b.limit.trans a.limit, by rw [b.hand, a.hand]; omega, b.parts.trans a.parts, b.opn.trans a.opn, b.closed.trans a.closed⟩
theorem Went.calm {block : Int} {fs : List (ByteArray × AFile)} (a : Went j h s s') (c : Calm s.D block fs) : Calm s'.D block fs := by rw [a.D]; exact c.readsN j
theorem Went.of_eq {i : Nat} {k : Int} (a : Went j h s s') (e : j = i) (e2 : h = k) : Went i k s s' := by subst e e2; exact a
theorem Went.read (s : RSt) : Went 1 0 s { s with D := s.D.readsN 1 } := ⟨rfl, rfl, rfl, by show s.S.hand = _; omega, rfl, rfl, rfl⟩
theorem Went.take {K : Nat} (s : RSt) (hc : s.S.closed = false) (hf : (K : Int) ≤ s.S.limit - (s.S.hand + s.S.parts)) : Went 0 K s { s with S := s.S.take K } := by
  have ha : s.S.asked K = 0 := by
    unfold PSt.asked
    rw [hc, if_neg (by simp), if_neg (by omega), if_neg (by omega)]
  have e : s.S.take K = s.S.took K := by unfold PSt.take; rw [if_pos ha]
  rw [e]
  exact ⟨rfl, rfl, rfl, rfl, rfl, rfl, rfl⟩
theorem Went.give {K : Nat} (s : RSt) (hc : s.S.closed = false) (hh : (K : Int) ≤ s.S.hand) : Went 0 (-(K : Int)) s { s with S := s.S.give K } := by
  have hg : s.S.gives K = 0 := by
    unfold PSt.gives
    rw [hc, if_neg (by simp), if_neg (by omega), if_neg (by omega)]
  have e : s.S.give K = { s.S with hand := s.S.hand - K } := by unfold PSt.give; rw [if_pos hg]
  rw [e]
  exact ⟨rfl, rfl, rfl, by show s.S.hand - K = _; omega, rfl, rfl, rfl⟩
theorem frees_open {S : PSt} (hc : S.closed = false) : S.frees = S.limit - (S.hand + S.parts) := by unfold PSt.frees; rw [hc]; simp
end

theorem open_tape {c : Cx} {fs : List (ByteArray × AFile)} {name : ByteArray} {kind kind2 : Nat} {L : List R4} {s : RSt} (t : TapeOn c fs name kind L) (hc : Calm s.D c.block fs) (hk : 1 ≤ kind2 ∧ kind2 ≤ 5) (hcl : s.S.closed = false) (hf : (c.K : Int) ≤ s.S.limit - (s.S.hand + s.S.parts)) :
    openR s.D s.S c.K name kind2 = (0, s.S.take c.K) := by
  unfold openR
  rw [if_neg (by omega), t.readable hc, if_neg (by simp), frees_open hcl, if_neg (by omega)]
end Go.Proofs.YtadipinnbehhhaaGreatDoor
