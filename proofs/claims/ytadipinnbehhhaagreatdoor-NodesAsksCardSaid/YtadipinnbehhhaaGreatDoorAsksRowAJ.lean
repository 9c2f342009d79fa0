/- The disk's Read, in the room's words. Peek, over what load answers. The references' Records at the blocks that Blocks makes. Pointers to nodes: taken apart and put together, by the program and by the reference. Levels, what may point where; by the program and by the reference. Nodes: put together, compared, told from other records; by the program and by the reference. Builders as states. A builder: Done. A builder: Add. The law's model of a builder: what it is in memory. A disk without troubles that has room: what its calls come to; a writer over it and the records that it was given. The builder against the law's model: the same answers, whatever is asked; plain, no program in sight. The room's question: has the disk what it had and these files, no others? Where it is so: yes. What the law asks of its room, in the room's words. NodesBuilds: the plain facts of its start: the names, the limits, what Begin answers. Tapes that are read, plain: a tape on a disk without troubles; a reader over it and what is left to it. What a room has come to behind reads alone: so many reads more, so many records more in hand. -/
import Derived.OwnWalk
import Derived.Laws.Bits64
import Derived.Laws.Bits64b
import Derived.Deep.RegionHeld3
import Derived.Test.YtadipinnbehhhaaGreatDoorAsksRowAI
import Derived.Test.YtadipinnbehhhaaGreatDoorAsksRowAH
import Derived.Test.YtadipinnbehhhaaGreatDoorAsksRowAA
import Derived.Test.YtadipinnbehhhaaGreatDoorAsksRowAD
namespace Go.Proofs.YtadipinnbehhhaaGreatDoor
open Go.RowKit

theorem read_block (D : DSt) (s : ByteArray) (i : Int) : (D.read s i).1.block = D.block := by
  unfold DSt.read
  split
  · rfl
  split
  · rfl
  split
  · rfl
  split
  · rfl
  split <;> rfl
theorem dread_rm (c : Cx) (w : World) (G : Nat → Prop) (s : RSt) (name : ByteArray) (i : Int) (h : RmAt c w G s) :
    Calls Tryz.prog 251 #[.pointer (some ⟨c.d, 0, none⟩), .string name, .int .i64 i] w fun e w' => ∃ u, e = .returned (.tuple #[u, .int .i64 (s.D.read name i).2.1]) ∧ RmTo c G { s with D := (s.D.read name i).1 } w w' ∧
      (((s.D.read name i).2.2 = none ∧ u = .slice none 0 0) ∨ ∃ bs, (s.D.read name i).2.2 = some bs ∧ BsAt w' (fun b => w.heap.size ≤ b) u bs) := by
  obtain ⟨F, rfl, hd⟩ := h.out
  obtain ⟨R, hD⟩ := hd.disk
  exact (dread_any c.d s.D R F c.E name i w hD hd.envd).mono fun _ _ ⟨u, he, ht, hb⟩ => ⟨u, he, h.step (hd.at_disk ht) (read_block _ _ _), hb⟩
end Go.Proofs.YtadipinnbehhhaaGreatDoor
namespace Go.Proofs.YtadipinnbehhhaaGreatDoor
open Go.RowKit

set_option maxRecDepth 100000 in
set_option maxHeartbeats 1000000 in
/-- Where load gives none. -/
theorem peek_none (b : Nat) (n : Int) (w : World) (Q : World → Prop)
    (hload : Calls Tryz.prog 201 #[.pointer (some ⟨b, 0, none⟩)] (w.alloc (.cells #[.int .u64 0, .int .u64 0, .int .u64 0, .int .u64 0] 111)) fun e w' => e = .returned (.tuple #[.bool false, .int .i64 n]) ∧ Blk w' w.heap.size 111 #[.int .u64 0, .int .u64 0, .int .u64 0, .int .u64 0] ∧ ∀ w2, Keep (fun x => x = w.heap.size) w' w2 → Q w2) :
    Calls Tryz.prog 164 #[.pointer (some ⟨b, 0, none⟩)] w fun e w' => e = .returned (.tuple #[.agg #[.int .u64 0, .int .u64 0, .int .u64 0, .int .u64 0], .bool false, .int .i64 n]) ∧ Q w' := by
  have HL := Hid.intro_ hload
  clear hload
  go_enter Tryz.func164, Tryz.ntmps164
  go_wp2_with fail
  refine HL.out.mono ?_
  rintro e w1 ⟨rfl, hb, hQ⟩
  have z0 : w1.cell? ⟨w.heap.size, 0, none⟩ = some (.int .u64 0) := hb.at_ 0
  have z1 : w1.cell? ⟨w.heap.size, 1, none⟩ = some (.int .u64 0) := hb.at_ 1
  have z2 : w1.cell? ⟨w.heap.size, 2, none⟩ = some (.int .u64 0) := hb.at_ 2
  have z3 : w1.cell? ⟨w.heap.size, 3, none⟩ = some (.int .u64 0) := hb.at_ 3
  have f0 := hb.fr 0
  have f1 := hb.fr 1
  have f2 := hb.fr 2
  have f3 := hb.fr 3
  go_wp2_with fail
  have kp := ((((Keep.refl (fun x => x = w.heap.size) w1).setCell (p := ⟨w.heap.size, 0, none⟩) (fun _ => rfl) (.int .u64 0)).setCell (p := ⟨w.heap.size, 1, none⟩) (fun _ => rfl) (.int .u64 0)).setCell (p := ⟨w.heap.size, 2, none⟩) (fun _ => rfl) (.int .u64 0)).setCell (p := ⟨w.heap.size, 3, none⟩) (fun _ => rfl) (.int .u64 0)
  have hb2 := (((hb.set_ 0 (.int .u64 0)).set_ 1 (.int .u64 0)).set_ 2 (.int .u64 0)).set_ 3 (.int .u64 0)
  have hq := hQ _ kp
  generalize (((w1.setCell ⟨w.heap.size, 0, none⟩ (.int .u64 0)).setCell ⟨w.heap.size, 1, none⟩ (.int .u64 0)).setCell ⟨w.heap.size, 2, none⟩ (.int .u64 0)).setCell ⟨w.heap.size, 3, none⟩ (.int .u64 0) = X at *
  have y0 : X.cell? ⟨w.heap.size, 0, none⟩ = some (.int .u64 0) := hb2.at_ 0
  have y1 : X.cell? ⟨w.heap.size, 1, none⟩ = some (.int .u64 0) := hb2.at_ 1
  have y2 : X.cell? ⟨w.heap.size, 2, none⟩ = some (.int .u64 0) := hb2.at_ 2
  have y3 : X.cell? ⟨w.heap.size, 3, none⟩ = some (.int .u64 0) := hb2.at_ 3
  refine bodyPost_ret (v := .tuple #[.agg #[.int .u64 0, .int .u64 0, .int .u64 0, .int .u64 0], .bool false, .int .i64 n]) (by simp [results, Tryz.results164, go_sem, y0, y1, y2, y3]) rfl ⟨rfl, hq⟩
set_option maxRecDepth 100000 in
set_option maxHeartbeats 1000000 in
/-- Where load gives a record. -/
theorem peek_some (b : Nat) (w : World) (Q : World → R4 → Prop)
    (hload : Calls Tryz.prog 201 #[.pointer (some ⟨b, 0, none⟩)] (w.alloc (.cells #[.int .u64 0, .int .u64 0, .int .u64 0, .int .u64 0] 111)) fun e w' => e = .returned (.tuple #[.bool true, .int .i64 0]) ∧ Blk w' w.heap.size 111 #[.int .u64 0, .int .u64 0, .int .u64 0, .int .u64 0] ∧
      ∃ g o L cap r, w'.cell? ⟨b, 3, none⟩ = some (.slice (some ⟨g, o, none⟩) L cap) ∧ 1 ≤ L ∧ Rd w' (some ⟨g, o, none⟩) (rcCells [r]) ∧ ∀ w2, Keep (fun x => x = w.heap.size) w' w2 → Q w2 r) :
    Calls Tryz.prog 164 #[.pointer (some ⟨b, 0, none⟩)] w fun e w' => ∃ r : R4, e = .returned (.tuple #[.agg #[.int .u64 r.a, .int .u64 r.b, .int .u64 r.c, .int .u64 r.d], .bool true, .int .i64 0]) ∧ Q w' r := by
  have HL := Hid.intro_ hload
  clear hload
  go_enter Tryz.func164, Tryz.ntmps164
  go_wp2_with fail
  refine HL.out.mono ?_
  rintro e w1 ⟨rfl, hb, g, o, L, cap, r, c3, hL, hr, hQ⟩
  have z0 : w1.cell? ⟨w.heap.size, 0, none⟩ = some (.int .u64 0) := hb.at_ 0
  have z1 : w1.cell? ⟨w.heap.size, 1, none⟩ = some (.int .u64 0) := hb.at_ 1
  have z2 : w1.cell? ⟨w.heap.size, 2, none⟩ = some (.int .u64 0) := hb.at_ 2
  have z3 : w1.cell? ⟨w.heap.size, 3, none⟩ = some (.int .u64 0) := hb.at_ 3
  have f0 := hb.fr 0
  have f1 := hb.fr 1
  have f2 := hb.fr 2
  have f3 := hb.fr 3
  have rd : ∀ (j : Nat) (u : Value), (rcCells [r])[j]? = some u → w1.cell? ⟨g, o + j, none⟩ = some u := fun j u hu => by
    obtain ⟨ad, e, hc⟩ := hr j u hu
    injection e with e
    subst e
    rw [add_at] at hc
    exact hc
  have r0 : w1.cell? ⟨g, o, none⟩ = some (.int .u64 r.a) := rd 0 _ rfl
  have r1 : w1.cell? ⟨g, o + 1, none⟩ = some (.int .u64 r.b) := rd 1 _ rfl
  have r2 : w1.cell? ⟨g, o + 2, none⟩ = some (.int .u64 r.c) := rd 2 _ rfl
  have r3 : w1.cell? ⟨g, o + 3, none⟩ = some (.int .u64 r.d) := rd 3 _ rfl
  have hL1 : (0 : Int) < (L : Int) := by omega
  clear rd hr
  go_wp2_with fail
  have kp := ((((Keep.refl (fun x => x = w.heap.size) w1).setCell (p := ⟨w.heap.size, 0, none⟩) (fun _ => rfl) (.int .u64 r.a)).setCell (p := ⟨w.heap.size, 1, none⟩) (fun _ => rfl) (.int .u64 r.b)).setCell (p := ⟨w.heap.size, 2, none⟩) (fun _ => rfl) (.int .u64 r.c)).setCell (p := ⟨w.heap.size, 3, none⟩) (fun _ => rfl) (.int .u64 r.d)
  have hb2 := (((hb.set_ 0 (.int .u64 r.a)).set_ 1 (.int .u64 r.b)).set_ 2 (.int .u64 r.c)).set_ 3 (.int .u64 r.d)
  have hq := hQ _ kp
  generalize (((w1.setCell ⟨w.heap.size, 0, none⟩ (.int .u64 r.a)).setCell ⟨w.heap.size, 1, none⟩ (.int .u64 r.b)).setCell ⟨w.heap.size, 2, none⟩ (.int .u64 r.c)).setCell ⟨w.heap.size, 3, none⟩ (.int .u64 r.d) = X at *
  have y0 : X.cell? ⟨w.heap.size, 0, none⟩ = some (.int .u64 r.a) := hb2.at_ 0
  have y1 : X.cell? ⟨w.heap.size, 1, none⟩ = some (.int .u64 r.b) := hb2.at_ 1
  have y2 : X.cell? ⟨w.heap.size, 2, none⟩ = some (.int .u64 r.c) := hb2.at_ 2
  have y3 : X.cell? ⟨w.heap.size, 3, none⟩ = some (.int .u64 r.d) := hb2.at_ 3
  refine bodyPost_ret (v := .tuple #[.agg #[.int .u64 r.a, .int .u64 r.b, .int .u64 r.c, .int .u64 r.d], .bool true, .int .i64 0]) (by simp [results, Tryz.results164, go_sem, y0, y1, y2, y3]) rfl ⟨r, rfl, hq⟩
end Go.Proofs.YtadipinnbehhhaaGreatDoor
namespace Go.Proofs.YtadipinnbehhhaaGreatDoor
open Go.RowKit

theorem own_some {w : World} {base n : Nat} {e : TypeId} {size : Nat} {v : Value} {xs : List Value} (h0 : 1 ≤ n) (h : w.ownsRow base e size v n xs) : ∃ g cap, v = .slice (some ⟨g, 0, none⟩) n cap ∧ n ≤ cap ∧ base ≤ g ∧ ∀ (j : Nat) (u : Value), xs[j]? = some u → w.cell? ((⟨g, 0, none⟩ : Addr).add j) = some u := by
  have h9 := h
  rcases h.2 with ⟨_, e0⟩ | ⟨g, cap, cur, e1, hb, hh, hle, hm, hs, ht⟩
  · omega
  · subst e1
    have hr := own_rd h9
    exact ⟨g, cap, rfl, hle, hb, fun j u hu => by obtain ⟨ad, e, hc⟩ := hr j u hu; injection e with e; subst e; exact hc⟩
end Go.Proofs.YtadipinnbehhhaaGreatDoor
namespace Go.Proofs.YtadipinnbehhhaaGreatDoor
open Go.RowKit

def sF (p : Nat) : Bool := decide (p = 9223372036854775808) || decide (p = 9223372036854775809)
def sV (p : Nat) : Bool := decide (p = 9223372036854775809)
def sIn (p : Nat) : Bool := !sF p && decide (p / 1099511627776 < 65536)
def sK (p : Nat) : Bool := sF p || decide (p / 1099511627776 < 65536)
def sL (p : Nat) : Int := if sIn p then ((p / 1099511627776 : Nat) : Int) else 0
def sI (p : Nat) : Int := if sIn p then ((p % 1099511627776 : Nat) : Int) else 0
/-- What Split answers. -/
def splitV (p : Nat) : Value := .tuple #[.int .i64 (sL p), .int .i64 (sI p), .bool (sF p), .bool (sV p), .bool (sK p)]
theorem and_low (p : Nat) (hp : p < 18446744073709551616) : bits .and .u64 (p : Int) 1099511627775 = ((p % 1099511627776 : Nat) : Int) := by
  have h := bits_and_u64_nat p 1099511627775 hp (by omega)
  have e : p &&& 1099511627775 = p % 1099511627776 := Nat.and_two_pow_sub_one_eq_mod p 40
  rw [e] at h
  exact h
theorem wrap_low (n : Int) (h : 0 ≤ n ∧ n < 9223372036854775808) : wrap64 n = n := by unfold wrap64; omega
theorem leaf_false : splitV 9223372036854775808 = .tuple #[.int .i64 0, .int .i64 0, .bool true, .bool false, .bool true] := by
  simp [splitV, sL, sI, sF, sV, sK, sIn]
theorem leaf_true : splitV 9223372036854775809 = .tuple #[.int .i64 0, .int .i64 0, .bool true, .bool true, .bool true] := by
  simp [splitV, sL, sI, sF, sV, sK, sIn]
theorem split_in {p : Nat} (h1 : ¬ p = 9223372036854775808) (h2 : ¬ p = 9223372036854775809) (h3 : p / 1099511627776 < 65536) :
    splitV p = .tuple #[.int .i64 ((p / 1099511627776 : Nat) : Int), .int .i64 ((p % 1099511627776 : Nat) : Int), .bool false, .bool false, .bool true] := by
  have e : sIn p = true := by unfold sIn sF; rw [decide_eq_false h1, decide_eq_false h2, decide_eq_true h3]; rfl
  unfold splitV sL sI
  rw [e]
  unfold sF sV sK sF
  rw [decide_eq_false h1, decide_eq_false h2, decide_eq_true h3]
  rfl
theorem split_out {p : Nat} (h1 : ¬ p = 9223372036854775808) (h2 : ¬ p = 9223372036854775809) (h3 : ¬ p / 1099511627776 < 65536) :
    splitV p = .tuple #[.int .i64 0, .int .i64 0, .bool false, .bool false, .bool false] := by
  have e : sIn p = false := by unfold sIn sF; rw [decide_eq_false h1, decide_eq_false h2, decide_eq_false h3]; rfl
  unfold splitV sL sI
  rw [e]
  unfold sF sV sK sF
  rw [decide_eq_false h1, decide_eq_false h2, decide_eq_false h3]
  rfl
set_option maxRecDepth 100000 in
set_option maxHeartbeats 1000000 in
theorem split_any (p : Nat) (hp : p < 18446744073709551616) (w : World) :
    Calls Tryz.prog 100 #[.int .u64 p] w fun e w' => e = .returned (splitV p) ∧ w' = w := by
  by_cases h1 : p = 9223372036854775808
  · subst h1
    rw [leaf_false]
    clear hp
    go_enter Tryz.func100, Tryz.ntmps100
    go_wp2
    exact bodyPost_ret (v := .tuple #[.int .i64 0, .int .i64 0, .bool true, .bool false, .bool true]) (by simp [results, Tryz.results100, go_sem]) rfl ⟨rfl, rfl⟩
  by_cases h2 : p = 9223372036854775809
  · subst h2
    rw [leaf_true]
    clear hp h1
    go_enter Tryz.func100, Tryz.ntmps100
    go_wp2
    exact bodyPost_ret (v := .tuple #[.int .i64 0, .int .i64 0, .bool true, .bool true, .bool true]) (by simp [results, Tryz.results100, go_sem]) rfl ⟨rfl, rfl⟩
  have q1 : ((p : Int) == 9223372036854775808) = false := by simp; omega
  have q2 : ((p : Int) == 9223372036854775809) = false := by simp; omega
  have hwr : IntKind.u64.wrap ((p : Int) / 1099511627776) = (p : Int) / 1099511627776 := by rw [IntKind.wrap_u64]; omega
  have hwm : IntKind.u64.wrap ((p : Int) % 1099511627776) = (p : Int) % 1099511627776 := by rw [IntKind.wrap_u64]; omega
  have hdv : wrap64 ((p : Int) / 1099511627776) = (p : Int) / 1099511627776 := wrap_low _ (by omega)
  have HP := Hid.intro_ hp
  by_cases h3 : p / 1099511627776 < 65536
  · rw [split_in h1 h2 h3]
    have q3 : decide ((p : Int) / 1099511627776 < 65536) = true := by simp; omega
    have hlow : wrap64 (bits .and .u64 (p : Int) 1099511627775) = ((p % 1099511627776 : Nat) : Int) := by rw [and_low p hp]; exact wrap_low _ (by omega)
    clear h1 h2 h3 hp
    go_enter Tryz.func100, Tryz.ntmps100
    go_wp2
    refine bodyPost_ret (v := .tuple #[.int .i64 ((p / 1099511627776 : Nat) : Int), .int .i64 ((p % 1099511627776 : Nat) : Int), .bool false, .bool false, .bool true]) (by simp [results, Tryz.results100, go_sem, hdv, hlow]) rfl ⟨rfl, rfl⟩
  · rw [split_out h1 h2 h3]
    have q3 : decide ((p : Int) / 1099511627776 < 65536) = false := by simp; omega
    clear h1 h2 h3 hp
    go_enter Tryz.func100, Tryz.ntmps100
    go_wp2
    exact bodyPost_ret (v := .tuple #[.int .i64 0, .int .i64 0, .bool false, .bool false, .bool false]) (by simp [results, Tryz.results100, go_sem]) rfl ⟨rfl, rfl⟩
set_option maxRecDepth 100000 in
set_option maxHeartbeats 1000000 in
theorem rsplit_any (p : Nat) (hp : p < 18446744073709551616) (w : World) :
    Calls Tryz.prog 82 #[.int .u64 p] w fun e w' => e = .returned (splitV p) ∧ w' = w := by
  by_cases h1 : p = 9223372036854775808
  · subst h1
    rw [leaf_false]
    clear hp
    go_enter Tryz.func82, Tryz.ntmps82
    go_wp2
    exact bodyPost_ret (v := .tuple #[.int .i64 0, .int .i64 0, .bool true, .bool false, .bool true]) (by simp [results, Tryz.results82, go_sem]) rfl ⟨rfl, rfl⟩
  by_cases h2 : p = 9223372036854775809
  · subst h2
    rw [leaf_true]
    clear hp h1
    go_enter Tryz.func82, Tryz.ntmps82
    go_wp2
    exact bodyPost_ret (v := .tuple #[.int .i64 0, .int .i64 0, .bool true, .bool true, .bool true]) (by simp [results, Tryz.results82, go_sem]) rfl ⟨rfl, rfl⟩
  have q1 : ((p : Int) == 9223372036854775808) = false := by simp; omega
  have q2 : ((p : Int) == 9223372036854775809) = false := by simp; omega
  have hwr : IntKind.u64.wrap ((p : Int) / 1099511627776) = (p : Int) / 1099511627776 := by rw [IntKind.wrap_u64]; omega
  have hwm : IntKind.u64.wrap ((p : Int) % 1099511627776) = (p : Int) % 1099511627776 := by rw [IntKind.wrap_u64]; omega
  have hdv : wrap64 ((p : Int) / 1099511627776) = (p : Int) / 1099511627776 := wrap_low _ (by omega)
  have HP := Hid.intro_ hp
  by_cases h3 : p / 1099511627776 < 65536
  · rw [split_in h1 h2 h3]
    have q3 : decide (65536 ≤ (p : Int) / 1099511627776) = false := by simp; omega
    clear h1 h2 h3 hp
    go_enter Tryz.func82, Tryz.ntmps82
    go_wp2
    refine bodyPost_ret (v := .tuple #[.int .i64 ((p / 1099511627776 : Nat) : Int), .int .i64 ((p % 1099511627776 : Nat) : Int), .bool false, .bool false, .bool true]) (by simp [results, Tryz.results82, go_sem, hdv]) rfl ⟨rfl, rfl⟩
  · rw [split_out h1 h2 h3]
    have q3 : decide (65536 ≤ (p : Int) / 1099511627776) = true := by simp; omega
    clear h1 h2 h3 hp
    go_enter Tryz.func82, Tryz.ntmps82
    go_wp2
    exact bodyPost_ret (v := .tuple #[.int .i64 0, .int .i64 0, .bool false, .bool false, .bool false]) (by simp [results, Tryz.results82, go_sem]) rfl ⟨rfl, rfl⟩
end Go.Proofs.YtadipinnbehhhaaGreatDoor
namespace Go.Proofs.YtadipinnbehhhaaGreatDoor
open Go.RowKit

theorem split_t (p : Nat) (hp : p < 18446744073709551616) (w : World) :
    Calls Tryz.prog 100 #[.int .u64 p] w fun e w' => e = .returned (.tuple #[.int .i64 (sL p), .int .i64 (sI p), .bool (sF p), .bool (sV p), .bool (sK p)]) ∧ w' = w := split_any p hp w
theorem rsplit_t (p : Nat) (hp : p < 18446744073709551616) (w : World) :
    Calls Tryz.prog 82 #[.int .u64 p] w fun e w' => e = .returned (.tuple #[.int .i64 (sL p), .int .i64 (sI p), .bool (sF p), .bool (sV p), .bool (sK p)]) ∧ w' = w := rsplit_any p hp w
/-- A pointer's level; 65536 of a leaf; -1 of what is none. -/
def pLv (p : Nat) : Int := if sK p = true then (if sF p = true then 65536 else sL p) else -1
set_option maxHeartbeats 1000000 in
theorem level_any (p : Nat) (hp : p < 18446744073709551616) (w : World) :
    Calls Tryz.prog 95 #[.int .u64 p] w fun e w' => e = .returned (.int .i64 (pLv p)) ∧ w' = w := by
  have HP := Hid.intro_ hp
  clear hp
  cases hk : sK p
  · have e : pLv p = -1 := by unfold pLv; rw [if_neg (by simp [hk])]
    rw [e]
    go_enter Tryz.func95, Tryz.ntmps95
    go_wp2_with (go_at_call 100; refine (split_t p HP.out _).mono ?_; rintro e w' ⟨rfl, rfl⟩)
    go_ret
    exact ⟨rfl, rfl⟩
  cases hf : sF p
  · have e : pLv p = sL p := by unfold pLv; rw [if_pos hk, if_neg (by simp [hf])]
    rw [e]
    go_enter Tryz.func95, Tryz.ntmps95
    go_wp2_with (go_at_call 100; refine (split_t p HP.out _).mono ?_; rintro e w' ⟨rfl, rfl⟩)
    go_ret
    exact ⟨rfl, rfl⟩
  · have e : pLv p = 65536 := by unfold pLv; rw [if_pos hk, if_pos hf]
    rw [e]
    go_enter Tryz.func95, Tryz.ntmps95
    go_wp2_with (go_at_call 100; refine (split_t p HP.out _).mono ?_; rintro e w' ⟨rfl, rfl⟩)
    go_ret
    exact ⟨rfl, rfl⟩
/-- May a node of that level, over so many levels, point there? -/
def uN (p : Nat) (l n : Int) : Bool := decide (pLv p = 65536) || (decide (l < pLv p) && decide (pLv p < n))
set_option maxHeartbeats 1000000 in
theorem under_any (p : Nat) (l n : Int) (hp : p < 18446744073709551616) (w : World) :
    Calls Tryz.prog 137 #[.int .u64 p, .int .i64 l, .int .i64 n] w fun e w' => e = .returned (.bool (uN p l n)) ∧ w' = w := by
  have HP := Hid.intro_ hp
  clear hp
  unfold uN
  generalize hq : pLv p = q
  have HQ := Hid.intro_ hq
  clear hq
  by_cases h1 : q = 65536
  · have e1 : (q == 65536) = true := by simpa using h1
    rw [decide_eq_true h1, Bool.true_or]
    clear h1
    go_enter Tryz.func137, Tryz.ntmps137
    go_wp2_with (go_at_call 95; refine (level_any p HP.out _).mono ?_; rw [HQ.out]; rintro e w' ⟨rfl, rfl⟩)
    go_ret
    exact ⟨rfl, rfl⟩
  have e1 : (q == 65536) = false := by simpa using h1
  rw [decide_eq_false h1, Bool.false_or]
  clear h1
  by_cases h2 : l < q
  · rw [decide_eq_true h2, Bool.true_and]
    go_enter Tryz.func137, Tryz.ntmps137
    go_wp2_with (go_at_call 95; refine (level_any p HP.out _).mono ?_; rw [HQ.out]; rintro e w' ⟨rfl, rfl⟩)
    go_ret
    exact ⟨rfl, rfl⟩
  · rw [decide_eq_false h2, Bool.false_and]
    have h2' : decide (l < q) = false := decide_eq_false h2
    clear h2
    go_enter Tryz.func137, Tryz.ntmps137
    go_wp2_with (go_at_call 95; refine (level_any p HP.out _).mono ?_; rw [HQ.out]; rintro e w' ⟨rfl, rfl⟩)
    go_ret
    exact ⟨rfl, rfl⟩
/-- Is it a pointer to a node of a level below n? -/
def nOk (p : Nat) (n : Int) : Bool := sK p && !sF p && decide (sL p < n)
set_option maxHeartbeats 1000000 in
theorem node_any (p : Nat) (n : Int) (hp : p < 18446744073709551616) (w : World) :
    Calls Tryz.prog 153 #[.int .u64 p, .int .i64 n] w fun e w' => e = .returned (.tuple #[.int .i64 (if nOk p n = true then sL p else 0), .int .i64 (if nOk p n = true then sI p else 0), .bool (nOk p n)]) ∧ w' = w := by
  have HP := Hid.intro_ hp
  clear hp
  cases hk : sK p
  · have e : nOk p n = false := by simp [nOk, hk]
    rw [e]
    go_enter Tryz.func153, Tryz.ntmps153
    go_wp2_with (go_at_call 82; refine (rsplit_t p HP.out _).mono ?_; rintro e w' ⟨rfl, rfl⟩)
    go_ret3
    exact ⟨rfl, rfl⟩
  cases hf : sF p
  · by_cases hl : sL p < n
    · have e : nOk p n = true := by simp [nOk, hk, hf, hl]
      rw [e]
      go_enter Tryz.func153, Tryz.ntmps153
      go_wp2_with (go_at_call 82; refine (rsplit_t p HP.out _).mono ?_; rintro e w' ⟨rfl, rfl⟩)
      go_ret3
      exact ⟨rfl, rfl⟩
    · have e : nOk p n = false := by simp [nOk, hl]
      rw [e]
      go_enter Tryz.func153, Tryz.ntmps153
      go_wp2_with (go_at_call 82; refine (rsplit_t p HP.out _).mono ?_; rintro e w' ⟨rfl, rfl⟩)
      go_ret3
      exact ⟨rfl, rfl⟩
  · have e : nOk p n = false := by simp [nOk, hf]
    rw [e]
    go_enter Tryz.func153, Tryz.ntmps153
    go_wp2_with (go_at_call 82; refine (rsplit_t p HP.out _).mono ?_; rintro e w' ⟨rfl, rfl⟩)
    go_ret3
    exact ⟨rfl, rfl⟩
/-- The same question, as the reference puts it. -/
def rU (p : Nat) (l n : Int) : Bool := sF p || (nOk p n && decide (l < sL p))
set_option maxHeartbeats 1000000 in
theorem runder_any (p : Nat) (l n : Int) (hp : p < 18446744073709551616) (w : World) :
    Calls Tryz.prog 156 #[.int .u64 p, .int .i64 l, .int .i64 n] w fun e w' => e = .returned (.bool (rU p l n)) ∧ w' = w := by
  have HP := Hid.intro_ hp
  have hc := hp
  clear hp hc
  unfold rU
  by_cases h1 : p = 9223372036854775808
  · have e : sF p = true := by subst h1; rfl
    have q : ((p : Int) == 9223372036854775808) = true := by simp; omega
    rw [e, Bool.true_or]
    clear h1
    go_enter Tryz.func156, Tryz.ntmps156
    go_wp2
    go_ret
    exact ⟨rfl, rfl⟩
  have q1 : ((p : Int) == 9223372036854775808) = false := by simp; omega
  by_cases h2 : p = 9223372036854775809
  · have e : sF p = true := by subst h2; rfl
    have q : ((p : Int) == 9223372036854775809) = true := by simp; omega
    rw [e, Bool.true_or]
    clear h1 h2
    go_enter Tryz.func156, Tryz.ntmps156
    go_wp2
    go_ret
    exact ⟨rfl, rfl⟩
  have q2 : ((p : Int) == 9223372036854775809) = false := by simp; omega
  have e : sF p = false := by unfold sF; rw [decide_eq_false h1, decide_eq_false h2]; rfl
  rw [e, Bool.false_or]
  clear h1 h2 e
  cases hk : nOk p n
  · have hn := node_any p n HP.out
    rw [hk] at hn
    rw [Bool.false_and]
    go_enter Tryz.func156, Tryz.ntmps156
    go_wp2_with (go_at_call 153; refine (hn _).mono ?_; rintro e w' ⟨rfl, rfl⟩)
    go_ret
    exact ⟨rfl, rfl⟩
  · have hn := node_any p n HP.out
    rw [hk] at hn
    rw [Bool.true_and]
    go_enter Tryz.func156, Tryz.ntmps156
    go_wp2_with (go_at_call 153; refine (hn _).mono ?_; rintro e w' ⟨rfl, rfl⟩)
    go_ret
    exact ⟨rfl, rfl⟩
theorem sL_lt (p : Nat) : 0 ≤ sL p ∧ sL p < 65536 := by
  unfold sL sIn
  split
  · rename_i h
    simp at h
    omega
  · omega
/-- The program and the reference ask the same. -/
theorem under_same (p : Nat) (l n : Int) (hl : 0 ≤ l) : rU p l n = uN p l n := by
  unfold rU uN pLv nOk
  have := sL_lt p
  cases hf : sF p
  · cases hk : sK p
    · have h2 : decide (l < -1) = false := by simp; omega
      simp [h2]
    · have h2 : decide (sL p = 65536) = false := by simp; omega
      simp [h2, Bool.and_comm]
  · have hk : sK p = true := by simp [sK, hf]
    simp [hk]
end Go.Proofs.YtadipinnbehhhaaGreatDoor
namespace Go.Proofs.YtadipinnbehhhaaGreatDoor
open Go.RowKit

def ndV (s l h : Nat) : Value := .agg #[.int .u64 s, .int .u64 l, .int .u64 h]
def rcV (a b c d : Nat) : Value := .agg #[.int .u64 a, .int .u64 b, .int .u64 c, .int .u64 d]
/-- What Inner answers. -/
def inner (l i : Int) : Int × Int := if l < 0 ∨ 65536 ≤ l ∨ i < 0 then (0, 1) else if 1099511627775 < i then (0, 8) else (l * 1099511627776 + i, 0)
set_option maxHeartbeats 1000000 in
theorem leaf_any (p : Nat) (w : World) :
    Calls Tryz.prog 94 #[.int .u64 p] w fun e w' => e = .returned (.bool (sF p)) ∧ w' = w := by
  by_cases h1 : p = 9223372036854775808
  · have e : sF p = true := by subst h1; rfl
    have q : ((p : Int) == 9223372036854775808) = true := by simp; omega
    rw [e]
    clear h1
    go_enter Tryz.func94, Tryz.ntmps94
    go_wp2
    go_ret
    exact ⟨rfl, rfl⟩
  have q1 : ((p : Int) == 9223372036854775808) = false := by simp; omega
  have e : sF p = ((p : Int) == 9223372036854775809) := by
    unfold sF
    rw [decide_eq_false h1, Bool.false_or, Bool.eq_iff_iff]
    simp
    omega
  rw [e]
  clear h1 e
  go_enter Tryz.func94, Tryz.ntmps94
  go_wp2
  go_ret
  exact ⟨rfl, rfl⟩
set_option maxHeartbeats 1000000 in
theorem first_any (s l h : Nat) (hs : s < 18446744073709551616) (w : World) :
    Calls Tryz.prog 134 #[ndV s l h] w fun e w' => e = .returned (.bool (sI s == 0)) ∧ Keep Nil w w' := by
  have HS := Hid.intro_ hs
  clear hs
  unfold ndV
  go_enter Tryz.func134, Tryz.ntmps134
  go_wp2_with (go_at_call 100; refine (split_t s HS.out _).mono ?_; rintro e w' ⟨rfl, rfl⟩)
  go_ret
  exact ⟨rfl, (Keep.refl Nil w).alloc _⟩
/-- Are the arcs (tl, th) behind (sl, sh)? -/
def bhd (tl th sl sh : Nat) : Bool := decide (sl < tl) || (decide (tl = sl) && decide (sh < th))
set_option maxHeartbeats 1000000 in
theorem behind_any (t tl th s sl sh : Nat) (w : World) :
    Calls Tryz.prog 138 #[ndV t tl th, ndV s sl sh] w fun e w' => e = .returned (.bool (bhd tl th sl sh)) ∧ Keep Nil w w' := by
  unfold ndV bhd
  have hk := ((Keep.refl Nil w).alloc (.cells #[.int .u64 t, .int .u64 tl, .int .u64 th] 46)).alloc (.cells #[.int .u64 s, .int .u64 sl, .int .u64 sh] 46)
  by_cases h1 : sl < tl
  · rw [decide_eq_true h1, Bool.true_or]
    have q1 : decide (sl < tl) = true := decide_eq_true h1
    clear h1
    go_enter Tryz.func138, Tryz.ntmps138
    go_wp2
    go_ret
    exact ⟨rfl, hk⟩
  rw [decide_eq_false h1, Bool.false_or]
  have q1 : decide (sl < tl) = false := decide_eq_false h1
  by_cases h2 : tl = sl
  · rw [decide_eq_true h2, Bool.true_and]
    have q2 : (tl == sl) = true := by simpa using h2
    have q2' : ((tl : Int) == (sl : Int)) = true := by simp; omega
    clear h1 h2
    go_enter Tryz.func138, Tryz.ntmps138
    go_wp2
    go_ret
    exact ⟨rfl, hk⟩
  · rw [decide_eq_false h2, Bool.false_and]
    have q2 : (tl == sl) = false := by simpa using h2
    have q2' : ((tl : Int) == (sl : Int)) = false := by simp; omega
    clear h1 h2
    go_enter Tryz.func138, Tryz.ntmps138
    go_wp2
    go_ret
    exact ⟨rfl, hk⟩
set_option maxHeartbeats 1000000 in
theorem rbehind_any (t tl th s sl sh : Nat) (w : World) :
    Calls Tryz.prog 142 #[ndV t tl th, ndV s sl sh] w fun e w' => e = .returned (.bool (bhd tl th sl sh)) ∧ Keep Nil w w' := by
  unfold ndV bhd
  have hk := ((Keep.refl Nil w).alloc (.cells #[.int .u64 t, .int .u64 tl, .int .u64 th] 46)).alloc (.cells #[.int .u64 s, .int .u64 sl, .int .u64 sh] 46)
  by_cases h1 : sl < tl
  · rw [decide_eq_true h1, Bool.true_or]
    have q1 : decide (sl < tl) = true := decide_eq_true h1
    clear h1
    go_enter Tryz.func142, Tryz.ntmps142
    go_wp2
    go_ret
    exact ⟨rfl, hk⟩
  rw [decide_eq_false h1, Bool.false_or]
  have q1 : decide (sl < tl) = false := decide_eq_false h1
  by_cases h2 : tl = sl
  · rw [decide_eq_true h2, Bool.true_and]
    have q2 : (tl == sl) = true := by simpa using h2
    have q2' : ((tl : Int) == (sl : Int)) = true := by simp; omega
    clear h1 h2
    go_enter Tryz.func142, Tryz.ntmps142
    go_wp2
    go_ret
    exact ⟨rfl, hk⟩
  · rw [decide_eq_false h2, Bool.false_and]
    have q2 : (tl == sl) = false := by simpa using h2
    have q2' : ((tl : Int) == (sl : Int)) = false := by simp; omega
    clear h1 h2
    go_enter Tryz.func142, Tryz.ntmps142
    go_wp2
    go_ret
    exact ⟨rfl, hk⟩
set_option maxHeartbeats 1000000 in
theorem rec_any (s l h : Nat) (w : World) :
    Calls Tryz.prog 89 #[ndV s l h] w fun e w' => e = .returned (rcV s l h 0) ∧ Keep Nil w w' := by
  unfold ndV rcV
  go_enter Tryz.func89, Tryz.ntmps89
  go_wp2
  refine bodyPost_ret (v := .agg #[.int .u64 s, .int .u64 l, .int .u64 h, .int .u64 0]) (by simp [results, Tryz.results89, go_sem]) rfl ⟨rfl, ((Keep.refl Nil w).alloc _).alloc _⟩
set_option maxHeartbeats 1000000 in
theorem end_any (v n : Nat) (root : Nat) (hv : v < 9223372036854775808) (hn : n < 9223372036854775808) (w : World) :
    Calls Tryz.prog 90 #[.agg #[.int .i64 v, .int .u64 root, .int .i64 n]] w fun e w' => e = .returned (rcV 18446744073709551615 v root n) ∧ Keep Nil w w' := by
  unfold rcV
  go_enter Tryz.func90, Tryz.ntmps90
  go_wp2
  refine bodyPost_ret (v := .agg #[.int .u64 18446744073709551615, .int .u64 v, .int .u64 root, .int .u64 n]) (by simp [results, Tryz.results90, go_sem]) rfl ⟨rfl, ((Keep.refl Nil w).alloc _).alloc _⟩
/-- Is (a, b, c, d) a node record over n levels? -/
def isN (a b c d : Nat) (n : Int) : Bool := nOk a n && decide (d = 0) && !decide (b = c) && rU b (sL a) n && rU c (sL a) n
set_option maxRecDepth 100000 in
set_option maxHeartbeats 2000000 in
theorem isNode_any (a b c d : Nat) (n : Int) (ha : a < 18446744073709551616) (hb : b < 18446744073709551616) (hc : c < 18446744073709551616) (w : World) :
    Calls Tryz.prog 81 #[rcV a b c d, .int .i64 n] w fun e w' => e = .returned (.tuple #[if isN a b c d n = true then ndV a b c else ndV 0 0 0, .bool (isN a b c d n)]) ∧ Keep Nil w w' := by
  obtain ⟨ans, hans⟩ : ∃ v, v = Value.tuple #[if isN a b c d n = true then ndV a b c else ndV 0 0 0, .bool (isN a b c d n)] := ⟨_, rfl⟩
  rw [← hans]
  have HA := Hid.intro_ hans
  have hn := node_any a n ha
  have hu := runder_any b (sL a) n hb
  have hu2 := runder_any c (sL a) n hc
  clear ha hb hc hans
  unfold rcV
  cases h1 : nOk a n
  · have HE := Hid.intro_ (show isN a b c d n = false by simp [isN, h1])
    rw [h1] at hn
    clear h1
    go_enter Tryz.func81, Tryz.ntmps81
    go_wp2_with (first
      | (go_at_call 153; refine (hn _).mono ?_; rintro e w' ⟨rfl, rfl⟩)
      | (go_at_call 156; with_reducible refine (hu _).mono ?_; rintro e w' ⟨rfl, rfl⟩)
      | (go_at_call 156; with_reducible refine (hu2 _).mono ?_; rintro e w' ⟨rfl, rfl⟩))
    refine bodyPost_ret (v := .tuple #[.agg #[.int .u64 0, .int .u64 0, .int .u64 0], .bool false]) (by simp [results, Tryz.results81, go_sem]) rfl ⟨by rw [HA.out, HE.out]; rfl, (((Keep.refl Nil _).alloc _).alloc _).alloc _⟩
  rw [h1] at hn
  by_cases h2 : d = 0
  · subst h2
    by_cases h3 : b = c
    · subst h3
      have HE := Hid.intro_ (show isN a b b 0 n = false by simp [isN])
      clear h1
      go_enter Tryz.func81, Tryz.ntmps81
      go_wp2_with (first
        | (go_at_call 153; refine (hn _).mono ?_; rintro e w' ⟨rfl, rfl⟩)
        | (go_at_call 156; with_reducible refine (hu _).mono ?_; rintro e w' ⟨rfl, rfl⟩)
        | (go_at_call 156; with_reducible refine (hu2 _).mono ?_; rintro e w' ⟨rfl, rfl⟩))
      refine bodyPost_ret (v := .tuple #[.agg #[.int .u64 0, .int .u64 0, .int .u64 0], .bool false]) (by simp [results, Tryz.results81, go_sem]) rfl ⟨by rw [HA.out, HE.out]; rfl, (((Keep.refl Nil _).alloc _).alloc _).alloc _⟩
    · have q3 : (b == c) = false := by simpa using h3
      have q3' : ((b : Int) == (c : Int)) = false := by simp; omega
      cases h4 : rU b (sL a) n
      · have HE := Hid.intro_ (show isN a b c 0 n = false by simp [isN, h4])
        rw [h4] at hu
        clear h1 h4
        go_enter Tryz.func81, Tryz.ntmps81
        go_wp2_with (first
          | (go_at_call 153; refine (hn _).mono ?_; rintro e w' ⟨rfl, rfl⟩)
          | (go_at_call 156; with_reducible refine (hu _).mono ?_; rintro e w' ⟨rfl, rfl⟩)
          | (go_at_call 156; with_reducible refine (hu2 _).mono ?_; rintro e w' ⟨rfl, rfl⟩))
        refine bodyPost_ret (v := .tuple #[.agg #[.int .u64 0, .int .u64 0, .int .u64 0], .bool false]) (by simp [results, Tryz.results81, go_sem]) rfl ⟨by rw [HA.out, HE.out]; rfl, (((Keep.refl Nil _).alloc _).alloc _).alloc _⟩
      · rw [h4] at hu
        cases h5 : rU c (sL a) n
        · have HE := Hid.intro_ (show isN a b c 0 n = false by simp [isN, h5])
          rw [h5] at hu2
          clear h1 h4 h5
          go_enter Tryz.func81, Tryz.ntmps81
          go_wp2_with (first
            | (go_at_call 153; refine (hn _).mono ?_; rintro e w' ⟨rfl, rfl⟩)
            | (go_at_call 156; with_reducible refine (hu _).mono ?_; rintro e w' ⟨rfl, rfl⟩)
            | (go_at_call 156; with_reducible refine (hu2 _).mono ?_; rintro e w' ⟨rfl, rfl⟩))
          refine bodyPost_ret (v := .tuple #[.agg #[.int .u64 0, .int .u64 0, .int .u64 0], .bool false]) (by simp [results, Tryz.results81, go_sem]) rfl ⟨by rw [HA.out, HE.out]; rfl, (((Keep.refl Nil _).alloc _).alloc _).alloc _⟩
        · have HE := Hid.intro_ (show isN a b c 0 n = true by simp [isN, h1, h3, h4, h5])
          rw [h5] at hu2
          clear h1 h4 h5
          go_enter Tryz.func81, Tryz.ntmps81
          go_wp2_with (first
            | (go_at_call 153; refine (hn _).mono ?_; rintro e w' ⟨rfl, rfl⟩)
            | (go_at_call 156; with_reducible refine (hu _).mono ?_; rintro e w' ⟨rfl, rfl⟩)
            | (go_at_call 156; with_reducible refine (hu2 _).mono ?_; rintro e w' ⟨rfl, rfl⟩))
          refine bodyPost_ret (v := .tuple #[.agg #[.int .u64 a, .int .u64 b, .int .u64 c], .bool true]) (by simp [results, Tryz.results81, go_sem]) rfl ⟨by rw [HA.out, HE.out]; rfl, (((Keep.refl Nil _).alloc _).alloc _).alloc _⟩
  · have HE := Hid.intro_ (show isN a b c d n = false by simp [isN, h2])
    have q2 : ((d : Int) == 0) = false := by simp; omega
    have q2' : (d == 0) = false := by simpa using h2
    clear h1 h2
    go_enter Tryz.func81, Tryz.ntmps81
    go_wp2_with (first
      | (go_at_call 153; refine (hn _).mono ?_; rintro e w' ⟨rfl, rfl⟩)
      | (go_at_call 156; with_reducible refine (hu _).mono ?_; rintro e w' ⟨rfl, rfl⟩)
      | (go_at_call 156; with_reducible refine (hu2 _).mono ?_; rintro e w' ⟨rfl, rfl⟩))
    refine bodyPost_ret (v := .tuple #[.agg #[.int .u64 0, .int .u64 0, .int .u64 0], .bool false]) (by simp [results, Tryz.results81, go_sem]) rfl ⟨by rw [HA.out, HE.out]; rfl, (((Keep.refl Nil _).alloc _).alloc _).alloc _⟩
end Go.Proofs.YtadipinnbehhhaaGreatDoor
namespace Go.Proofs.YtadipinnbehhhaaGreatDoor
open Go.RowKit

/-- A node: its three words. -/
structure N3 where
  self : Nat
  low : Nat
  high : Nat
structure N3.Ok (n : N3) : Prop where
  a : n.self < 18446744073709551616
  b : n.low < 18446744073709551616
  c : n.high < 18446744073709551616
def N3.rec4 (n : N3) : R4 := ⟨n.self, n.low, n.high, 0⟩
structure BSt where
  vars : Nat
  last : N3
  some_ : Bool
  dead : Int
  done : Bool
section
variable {c : Cx} {w w' w2 w0 : World} {bb b : Nat} {G G' : Nat → Prop} {s s' s2 : RSt} {x x' x2 : WSt} {y y' y2 : BSt}
end

/-- What Begin comes to. -/
def begins (s : RSt) (K : Nat) (name : ByteArray) (vars : Int) : Int × DSt × PSt := if vars < 0 ∨ 65536 < vars then (1, s.D, s.S) else openW s.D s.S K name 2
end Go.Proofs.YtadipinnbehhhaaGreatDoor
namespace Go.Proofs.YtadipinnbehhhaaGreatDoor
open Go.RowKit

section
variable (c : Cx) (w : World) (bb b : Nat) (G : Nat → Prop) (s : RSt) (x : WSt) (y : BSt) (root : Nat)

end
end Go.Proofs.YtadipinnbehhhaaGreatDoor
namespace Go.Proofs.YtadipinnbehhhaaGreatDoor
open Go.RowKit

section
variable (c : Cx) (w : World) (bb b : Nat) (G : Nat → Prop) (s : RSt) (x : WSt) (y : BSt) (level : Int) (low high : Nat)

end
end Go.Proofs.YtadipinnbehhhaaGreatDoor
namespace Go.Proofs.YtadipinnbehhhaaGreatDoor
open Go.RowKit

structure Mo where
  vars : Nat
  last : N3
  any : Bool
  done : Bool
  recs : List R4
end Go.Proofs.YtadipinnbehhhaaGreatDoor
namespace Go.Proofs.YtadipinnbehhhaaGreatDoor
open Go.RowKit

/-- A disk that is on, without troubles, and has just these files. -/
structure Calm (D : DSt) (block : Int) (fs : List (ByteArray × AFile)) : Prop where
  on : D.on = true
  block : D.block = block
  room : D.room = 1099511627776
  trs : D.trs = []
  files : D.files = fs
  used : D.used = total fs
section
variable {D : DSt} {block : Int} {fs : List (ByteArray × AFile)} {s : ByteArray} {f : AFile} {bs : List Int}

theorem Calm.fate (h : Calm D block fs) (b : Bool) : D.fate b = .done := by
  unfold DSt.fate DSt.hit
  rw [h.trs]
  rfl
theorem Calm.outcome (h : Calm D block fs) (b : Bool) (dn : DSt → DSt) (pt : Int → DSt → DSt) : D.outcome b dn pt = (dn D.numbered, 0) := by
  unfold DSt.outcome
  rw [h.fate]
theorem Calm.numbered (h : Calm D block fs) : Calm D.numbered block fs := ⟨h.on, h.block, h.room, h.trs, h.files, h.used⟩
theorem fpos_last : ∀ {fs : List (ByteArray × AFile)}, s ∉ fs.map (·.1) → fpos s (fs ++ [(s, f)]) = some (fs.length, f)
  | [], _ => by simp [fpos]
  | (k, g) :: r, h => by
    have h1 : ¬ s = k := fun e => h (by simp [e])
    have h2 : s ∉ r.map (·.1) := fun e => h (by simp only [List.map_cons, List.mem_cons]; exact .inr e)
    rw [List.cons_append]
    unfold fpos
    rw [if_neg h1, fpos_last h2]
    rfl
theorem updF_off {g : AFile → AFile} : ∀ {fs : List (ByteArray × AFile)}, s ∉ fs.map (·.1) → updF s g fs = fs
  | [], _ => rfl
  | (k, x) :: r, h => by
    have h1 : ¬ k = s := fun e => h (by simp [e])
    have h2 : s ∉ r.map (·.1) := fun e => h (by simp only [List.map_cons, List.mem_cons]; exact .inr e)
    have ih := updF_off (g := g) h2
    unfold updF at ih ⊢
    rw [List.map_cons, ih]
    simp [h1]
theorem updF_last {g : AFile → AFile} (h : s ∉ fs.map (·.1)) : updF s g (fs ++ [(s, f)]) = fs ++ [(s, g f)] := by
  have := updF_off (g := g) h
  unfold updF at this ⊢
  rw [List.map_append, this]
  simp
theorem Calm.perr (h : Calm D block (fs ++ [(s, f)])) (hn : okName s = true) (hs : s ∉ fs.map (·.1)) : D.perr s = none := by
  unfold DSt.perr DSt.ferr
  rw [h.on, hn, h.files, fpos_last hs]
  simp
theorem total_one (f : ByteArray × AFile) : total [f] = f.2.blocks.length := by simp [total]
theorem Calm.append (h : Calm D block (fs ++ [(s, f)])) (hn : okName s = true) (hs : s ∉ fs.map (·.1)) (hf : f.done = false) (hb : (bs.length : Int) = block) (ht : total fs + f.blocks.length < 1099511627776) :
    (D.append_ s bs).2 = 0 ∧ Calm (D.append_ s bs).1 block (fs ++ [(s, { f with blocks := f.blocks ++ [bs] })]) := by
  have e : D.append_ s bs = ((D.numbered.put s f bs).appended, 0) := by
    unfold DSt.append_
    rw [h.perr hn hs, h.files, fpos_last hs]
    simp only [hf]
    rw [if_neg (by simp), if_neg (by rw [hb, h.block]; simp), if_neg (by rw [h.room, h.used, total_append, total_one]; simp only; omega), h.outcome]
  rw [e]
  refine ⟨rfl, h.on, h.block, h.room, h.trs, ?_, ?_⟩
  · show updF s (fun _ => { f with blocks := f.blocks ++ [bs] }) D.files = _
    rw [h.files, updF_last hs]
  · show D.used + 1 = _
    rw [h.used, total_append, total_append, total_one, total_one]
    simp only [List.length_append, List.length_singleton]
    omega
theorem Calm.sealed (h : Calm D block (fs ++ [(s, f)])) (hn : okName s = true) (hs : s ∉ fs.map (·.1)) (hf : f.done = false) :
    (D.seal_ s).2 = 0 ∧ Calm (D.seal_ s).1 block (fs ++ [(s, { f with done := true })]) := by
  have e : D.seal_ s = (D.numbered.setF s { f with done := true }, 0) := by
    unfold DSt.seal_
    rw [h.perr hn hs, h.files, fpos_last hs]
    simp only [hf]
    rw [if_neg (by simp), h.outcome]
  rw [e]
  refine ⟨rfl, h.on, h.block, h.room, h.trs, ?_, ?_⟩
  · show updF s (fun _ => { f with done := true }) D.files = _
    rw [h.files, updF_last hs]
  · show D.used = _
    rw [h.used, total_append, total_append, total_one, total_one]
theorem Calm.create (h : Calm D block fs) (hn : okName s = true) (hs : s ∉ fs.map (·.1)) : (D.create s).2 = 0 ∧ Calm (D.create s).1 block (fs ++ [(s, ⟨false, []⟩)]) := by
  have e : D.create s = (D.numbered.made s, 0) := by
    unfold DSt.create
    rw [h.on, hn, h.files, fpos_none hs, if_neg (by simp), if_neg (by simp), if_neg (by simp), h.outcome]
  rw [e]
  refine ⟨rfl, h.on, h.block, h.room, h.trs, ?_, ?_⟩
  · show D.files ++ _ = _
    rw [h.files]
  · show D.used = _
    rw [h.used, total_append, total_one]
    simp
theorem Calm.fresh (h : Calm D block fs) (hn : okName s = true) (hs : s ∉ fs.map (·.1)) : D.fresh s = 0 := by
  have e : D.length s = (0, false, errNo 2) := by
    unfold DSt.length DSt.perr DSt.ferr
    rw [h.on, hn, h.files, fpos_none hs]
    simp
  unfold DSt.fresh
  rw [e]
  rfl
end

theorem nblk_more (F p r : Nat) (h1 : 1 ≤ r) (h2 : r ≤ F) : nblk F (p * F + r) = p + 1 := by
  unfold nblk
  rw [show p * F + r + F - 1 = (r - 1) + F * (p + 1) by rw [Nat.mul_comm, Nat.mul_add]; omega, Nat.add_mul_div_left _ _ (by omega), Nat.div_eq_of_lt (by omega)]
  omega
section
variable {c : Cx} {fs : List (ByteArray × AFile)} {name : ByteArray} {s : RSt} {x : WSt} {recs : List R4}
end
end Go.Proofs.YtadipinnbehhhaaGreatDoor
namespace Go.Proofs.YtadipinnbehhhaaGreatDoor
open Go.RowKit

section
variable {c : Cx} {fs : List (ByteArray × AFile)} {name : ByteArray} {s : RSt} {x : WSt} {y : BSt} {m : Mo} {n lim : Nat} {level id : Int} {low high root : Nat}

end
end Go.Proofs.YtadipinnbehhhaaGreatDoor
namespace Go.Proofs.YtadipinnbehhhaaGreatDoor
open Go.RowKit

/-- The files that are not among those. -/
def rest (gs ws : List (ByteArray × AFile)) : List (ByteArray × AFile) := gs.filter fun g => ws.all fun x => decide (¬ g.1 = x.1)
end Go.Proofs.YtadipinnbehhhaaGreatDoor
namespace Go.Proofs.YtadipinnbehhhaaGreatDoor
open Go.RowKit

section
variable {c : Cx} {w w' : World} {G : Nat → Prop} {s : RSt} {H H2 : Nat → Prop} {v vw : Value} {fs gs wants : List (ByteArray × AFile)}

theorem room_k (h : RmAt c w G s) : Calls Tryz.prog 61 #[.pointer (some ⟨c.k, 0, none⟩)] w fun e w' => e = .returned (.int .i64 c.K) ∧ w' = w := k_any c.k _ _ c.K s.next w h.desk
theorem kept_rm (h : RmAt c w G s) (hs : StAt w H (.agg #[.int .i64 c.block, v]) c.block fs) (hc : Calm s.D c.block gs) (hp : gs.Perm fs) (hr : rises (fs.map (·.1))) (hn : ∀ f ∈ gs, f.1.size ≤ 32) (h8 : Bytes fs) (hl : Few fs) (hz : s.S.hand + s.S.parts = 0) :
    Calls Tryz.prog 14 #[.agg #[.pointer (some ⟨c.d, 0, none⟩), .pointer (some ⟨c.p, 0, none⟩), .pointer (some ⟨c.k, 0, none⟩), .int .i64 c.block, v]] w fun e w' => e = .returned (.bool true) ∧ RmTo c G s w w' := by
  obtain ⟨F, rfl, hd⟩ := h.out
  obtain ⟨R, hD⟩ := hd.disk
  have := kept_true c.d c.p c.lk c.k c.of s.D R F H s.S v fs w hD hd.purse (by rw [h.blk]; exact hs) (by rw [hc.files]; exact hp) hr (by rw [hc.files]; exact hn) h8 hl hz
  rw [h.blk] at this
  exact this.mono fun _ _ t => ⟨t.ret, h.step (hd.at_purse t.purse t.keep) rfl⟩
end
end Go.Proofs.YtadipinnbehhhaaGreatDoor
namespace Go.Proofs.YtadipinnbehhhaaGreatDoor
open Go.RowKit

def nmZ : ByteArray := ⟨#[122]⟩
def nmOpen : ByteArray := ⟨#[111, 112, 101, 110]⟩
theorem fit_K {a : Int} (ha : 0 ≤ a ∧ a ≤ 8) : fit (64 + 32 * a) = 1 + a := by
  unfold fit
  rw [if_neg (by omega)]
  omega
theorem within_bd (v : Int) : 0 ≤ within v 9 ∧ within v 9 ≤ 8 := by
  unfold within
  split <;> omega
section
variable {block : Nat}
theorem stray_names : (strayFs block).map (·.1) = [nmOpen, nmZ] := rfl
theorem stray_ok : ∀ f ∈ strayFs block, okName f.1 = true := by
  intro f hf
  simp only [strayFs, List.mem_cons, List.not_mem_nil, or_false] at hf
  rcases hf with rfl | rfl
  · show okName nmOpen = true; decide +kernel
  · show okName nmZ = true; decide +kernel
theorem stray_short : ∀ f ∈ strayFs block, f.1.size ≤ 32 := by
  intro f hf
  simp only [strayFs, List.mem_cons, List.not_mem_nil, or_false] at hf
  rcases hf with rfl | rfl
  · show nmOpen.size ≤ 32; decide +kernel
  · show nmZ.size ≤ 32; decide +kernel
theorem stray_rises : rises ((strayFs block).map (·.1)) := by
  rw [stray_names]
  unfold rises
  rw [List.pairwise_cons]
  refine ⟨fun b hb => ?_, List.pairwise_singleton _ _⟩
  rw [List.mem_singleton.1 hb]
  decide +kernel
theorem blocksB_size (kind : Nat) (l : List R4) {F : Nat} (hF : fit block = F) (h0 : 0 < F) (b : List Int) (hb : b ∈ blocksB kind l block) : b.length = block := by
  unfold fit at hF
  split at hF
  · omega
  unfold blocksB at hb
  obtain ⟨k, _, rfl⟩ := List.mem_map.1 hb
  refine encB_len ?_
  rw [chunk_len]
  omega
theorem blocksB_bytes (kind : Nat) (l : List R4) (hk : 1 ≤ kind ∧ kind ≤ 255) (b : List Int) (hb : b ∈ blocksB kind l block) : ∀ x ∈ b, 0 ≤ x ∧ x ≤ 255 := by
  unfold blocksB at hb
  obtain ⟨k, _, rfl⟩ := List.mem_map.1 hb
  exact encB_range (by omega)
theorem blocksB_len (kind : Nat) (l : List R4) : (blocksB kind l block).length = nblk (block / 32 - 1) l.length := by simp [blocksB]
theorem nblk_le (F n : Nat) (hF : 0 < F) : nblk F n ≤ n := by
  unfold nblk
  by_cases h : n = 0
  · rw [h, Nat.div_eq_of_lt (by omega)]; exact Nat.le_refl _
  · rw [Nat.div_le_iff_le_mul_add_pred hF]
    have : n * 1 ≤ F * n := by rw [Nat.mul_comm]; exact Nat.mul_le_mul_right _ hF
    omega
theorem stray_blocks {F : Nat} (hF : fit block = F) (h0 : 0 < F) : ∀ f ∈ strayFs block, ∀ b ∈ f.2.blocks, b.length = block := by
  intro f hf b hb
  simp only [strayFs, List.mem_cons, List.not_mem_nil, or_false] at hf
  rcases hf with rfl | rfl
  · simp at hb
  · exact blocksB_size 1 _ hF h0 b hb
theorem stray_bytes : Bytes (strayFs block) := by
  intro f hf b hb
  simp only [strayFs, List.mem_cons, List.not_mem_nil, or_false] at hf
  rcases hf with rfl | rfl
  · simp at hb
  · exact blocksB_bytes 1 _ (by omega) b hb
theorem stray_total {F : Nat} (hF : fit block = F) (h0 : 0 < F) : total (strayFs block) = 1 := by
  have hb : block / 32 - 1 = F := by
    unfold fit at hF
    split at hF
    · omega
    · omega
  unfold total strayFs
  simp only [List.map_cons, List.map_nil, List.length_nil, blocksB_len, hb]
  have : nblk F 1 = 1 := by have := nblk_more F 0 1 (by omega) (by omega); simpa using this
  simp [this]
end

theorem mount_calm (block : Int) (fs : List (ByteArray × AFile)) : Calm (mountD block 1099511627776 fs) block fs := ⟨rfl, rfl, rfl, rfl, rfl, rfl⟩
end Go.Proofs.YtadipinnbehhhaaGreatDoor
namespace Go.Proofs.YtadipinnbehhhaaGreatDoor
open Go.RowKit

/-- So many reads more. -/
def DSt.readsN : Nat → DSt → DSt
  | 0, D => D
  | n + 1, D => (readsN n D).numbered.readOne
theorem DSt.readsN_add (m n : Nat) (D : DSt) : DSt.readsN m (DSt.readsN n D) = DSt.readsN (m + n) D := by
  induction m with
  | zero => rw [Nat.zero_add]; rfl
  | succ m ih => rw [Nat.succ_add]; show (DSt.readsN m (DSt.readsN n D)).numbered.readOne = (DSt.readsN (m + n) D).numbered.readOne; rw [ih]
theorem Calm.readOne {D : DSt} {block : Int} {fs : List (ByteArray × AFile)} (h : Calm D block fs) : Calm D.numbered.readOne block fs := ⟨h.on, h.block, h.room, h.trs, h.files, h.used⟩
theorem Calm.readsN {D : DSt} {block : Int} {fs : List (ByteArray × AFile)} (h : Calm D block fs) : ∀ n, Calm (D.readsN n) block fs
  | 0 => h
  | n + 1 => (Calm.readsN h n).readOne
/-- A tape lies on the disk. -/
structure TapeOn (c : Cx) (fs : List (ByteArray × AFile)) (name : ByteArray) (kind : Nat) (L : List R4) : Prop where
  ok : okName name = true
  pos : ∃ i, fpos name fs = some (i, ⟨true, blocksB kind L c.block⟩)
  oks : ∀ r ∈ L, r.Ok
  le : L.length ≤ 1099511627776
  kind : 1 ≤ kind ∧ kind ≤ 255
section
variable {c : Cx} {fs : List (ByteArray × AFile)} {name : ByteArray} {kind : Nat} {L rem : List R4} {D : DSt} {x : RdSt} {back : Bool} {q : Nat}

theorem TapeOn.perr (t : TapeOn c fs name kind L) (h : Calm D c.block fs) : D.perr name = none := by
  obtain ⟨i, hp⟩ := t.pos
  unfold DSt.perr DSt.ferr
  rw [h.on, t.ok, h.files, hp]
  simp
theorem TapeOn.length (t : TapeOn c fs name kind L) (h : Calm D c.block fs) : D.length name = (((blocksB kind L c.block).length : Int), true, 0) := by
  obtain ⟨i, hp⟩ := t.pos
  unfold DSt.length
  rw [t.perr h, h.files, hp]
theorem TapeOn.readable (t : TapeOn c fs name kind L) (h : Calm D c.block fs) : D.readable name = (((blocksB kind L c.block).length : Int), 0) := by
  unfold DSt.readable
  rw [t.length h]
  rw [if_neg (by simp)]
theorem TapeOn.read (t : TapeOn c fs name kind L) (h : Calm D c.block fs) {k : Nat} (hk : k < (blocksB kind L c.block).length) : D.read name k = (D.readsN 1, 0, (blocksB kind L c.block)[k]?) := by
  obtain ⟨i, hp⟩ := t.pos
  unfold DSt.read
  rw [t.perr h, h.files, hp]
  simp only
  rw [if_neg (by simp), if_neg (by omega), h.fate]
  simp only [Int.toNat_natCast]
  rfl
theorem fit_div {block K : Nat} (h : fit block = K) (h0 : 0 < K) : block / 32 - 1 = K ∧ 64 ≤ block ∧ block ≤ 65536 ∧ block % 32 = 0 ∧ 32 * K + 32 ≤ block := by
  unfold fit at h
  split at h <;> omega
theorem blocks_at {block : Nat} {k K : Nat} (hK : block / 32 - 1 = K) (hk : k < nblk K L.length) : (blocksB kind L block)[k]? = some (encB kind k (chunk K k L) block) := by
  unfold blocksB
  rw [hK, List.getElem?_map, List.getElem?_range hk]
  rfl
theorem chunk_oks {K k : Nat} (h : ∀ r ∈ L, r.Ok) : ∀ r ∈ chunk K k L, r.Ok := fun r hr => h r (List.mem_of_mem_drop (List.mem_of_mem_take hr))
theorem chunk_drop (K k : Nat) (L : List R4) : L.drop (k * K) = chunk K k L ++ L.drop ((k + 1) * K) := by
  unfold chunk
  rw [Nat.add_mul, Nat.one_mul, ← List.drop_drop, List.take_append_drop]
theorem chunk_take (K k : Nat) (L : List R4) : L.take ((k + 1) * K) = L.take (k * K) ++ chunk K k L := by
  unfold chunk
  rw [Nat.add_mul, Nat.one_mul, List.take_add]
theorem nblk_end {K : Nat} (hK : 0 < K) (n : Nat) : n ≤ nblk K n * K := by
  rcases Nat.lt_or_ge (nblk K n * K) n with h | h
  · exact absurd ((nblk_lt hK).2 h) (Nat.lt_irrefl _)
  · exact h
/-- A reader over a tape that is open: q blocks are not read yet; rem is left. -/
structure RdLive (c : Cx) (name : ByteArray) (kind : Nat) (L : List R4) (back : Bool) (x : RdSt) (q : Nat) (rem : List R4) : Prop where
  nm : x.name = name
  kd : x.kind = kind
  dd : x.dead = 0
  dn : x.done = false
  bk : x.back = back
  blocks : x.blocks = (nblk c.K L.length : Nat)
  le : q ≤ nblk c.K L.length
  place : x.place = if back then (q : Int) - 1 else ((nblk c.K L.length : Nat) : Int) - q
  rm : rem = if back then x.list ++ (L.take (q * c.K)).reverse else x.list ++ L.drop ((nblk c.K L.length - q) * c.K)
/-- A block is to be read. -/
theorem RdLive.more (h : RdLive c name kind L back x q rem) (hK : 0 < c.K) (hl : x.list = []) (hq : 0 < q) :
    ∃ k : Nat, x.place = k ∧ k < nblk c.K L.length ∧ 1 ≤ (chunk c.K k L).length ∧ (chunk c.K k L).length ≤ c.K ∧ ((chunk c.K k L).length < c.K → k + 1 = nblk c.K L.length) ∧
      RdLive c name kind L back { x with list := if back then (chunk c.K k L).reverse else chunk c.K k L, place := if back then x.place - 1 else x.place + 1 } (q - 1) rem := by
  have hqn := h.le
  have hr := h.rm
  rw [hl] at hr
  have hp := h.place
  have key : ∀ k, k < nblk c.K L.length → 1 ≤ (chunk c.K k L).length ∧ (chunk c.K k L).length ≤ c.K ∧ ((chunk c.K k L).length < c.K → k + 1 = nblk c.K L.length) := fun k hk => by
    have h1 := (nblk_lt hK).1 hk
    rw [chunk_len]
    refine ⟨by omega, by omega, fun h2 => ?_⟩
    rcases Nat.lt_or_ge (k + 1) (nblk c.K L.length) with h3 | h3
    · have h4 := (nblk_lt hK).1 h3
      rw [Nat.add_mul] at h4
      omega
    · omega
  cases back with
  | true =>
    simp only [if_true] at hp hr
    obtain ⟨k1, k2, k3⟩ := key (q - 1) (by omega)
    refine ⟨q - 1, by omega, by omega, k1, k2, k3, ⟨h.nm, h.kd, h.dd, h.dn, h.bk, h.blocks, by omega, ?_, ?_⟩⟩
    · simp only [if_true]; omega
    · simp only [if_true]
      rw [hr, List.nil_append, ← List.reverse_append, ← chunk_take, show q - 1 + 1 = q by omega]
  | false =>
    simp only [Bool.false_eq_true, if_false] at hp hr
    obtain ⟨k1, k2, k3⟩ := key (nblk c.K L.length - q) (by omega)
    refine ⟨nblk c.K L.length - q, by omega, by omega, k1, k2, k3, ⟨h.nm, h.kd, h.dd, h.dn, h.bk, h.blocks, by omega, ?_, ?_⟩⟩
    · simp only [Bool.false_eq_true, if_false]; omega
    · simp only [Bool.false_eq_true, if_false]
      rw [hr, List.nil_append, chunk_drop, show nblk c.K L.length - (q - 1) = nblk c.K L.length - q + 1 by omega]
/-- None is to be read: what is left is what it holds. -/
theorem RdLive.held (h : RdLive c name kind L back x 0 rem) (hK : 0 < c.K) : rem = x.list := by
  have hr := h.rm
  cases back with
  | true =>
    simp only [if_true, Nat.zero_mul, List.take_zero, List.reverse_nil, List.append_nil] at hr
    exact hr
  | false =>
    simp only [Bool.false_eq_true, if_false, Nat.sub_zero] at hr
    rw [List.drop_eq_nil_of_le (nblk_end hK _), List.append_nil] at hr
    exact hr
theorem RdLive.last (h : RdLive c name kind L back x 0 rem) : x.place < 0 ∨ (0 ≤ x.place ∧ x.blocks ≤ x.place) := by
  have hp := h.place
  have hb := h.blocks
  cases back with
  | true => simp only [if_true] at hp; omega
  | false => simp only [Bool.false_eq_true, if_false] at hp; omega
/-- The first one is taken. -/
theorem RdLive.took {r : R4} {l : List R4} (h : RdLive c name kind L back x q rem) (hl : x.list = r :: l) : ∃ rest, rem = r :: rest ∧ RdLive c name kind L back { x with list := l } q rest := by
  have hr := h.rm
  rw [hl] at hr
  cases back with
  | true =>
    simp only [if_true, List.cons_append] at hr
    exact ⟨_, hr, ⟨h.nm, h.kd, h.dd, h.dn, h.bk, h.blocks, h.le, h.place, by simp only [if_true]⟩⟩
  | false =>
    simp only [Bool.false_eq_true, if_false, List.cons_append] at hr
    exact ⟨_, hr, ⟨h.nm, h.kd, h.dd, h.dn, h.bk, h.blocks, h.le, h.place, by simp only [Bool.false_eq_true, if_false]⟩⟩
theorem RdLive.st (h : RdLive c name kind L back x q rem) : stSt x.done x.dead = 0 := by
  unfold stSt
  rw [h.dn, h.dd]
  rfl
/-- A reader that has just been opened. -/
theorem RdLive.fresh (name : ByteArray) (kind : Nat) (L : List R4) (back : Bool) (n : Nat) (hK : 0 < c.K) (hn : n = nblk c.K L.length) :
    RdLive c name kind L back { name := name, kind := kind, dead := 0, done := false, back := back, blocks := (n : Int), place := if back then (n : Int) - 1 else 0, list := [] } n (if back then L.reverse else L) := by
  subst hn
  cases back with
  | true =>
    refine ⟨rfl, rfl, rfl, rfl, rfl, rfl, Nat.le_refl _, rfl, ?_⟩
    simp only [if_true, List.nil_append]
    rw [List.take_of_length_le (nblk_end hK _)]
  | false =>
    refine ⟨rfl, rfl, rfl, rfl, rfl, rfl, Nat.le_refl _, by simp, ?_⟩
    simp
end
end Go.Proofs.YtadipinnbehhhaaGreatDoor
namespace Go.Proofs.YtadipinnbehhhaaGreatDoor
open Go.RowKit

/-- From s to s': j reads, h records taken out. -/
structure Went (j : Nat) (h : Int) (s s' : RSt) : Prop where
  D : s'.D = s.D.readsN j
  next : s'.next = s.next
  limit : s'.S.limit = s.S.limit
  hand : s'.S.hand = s.S.hand + h
  parts : s'.S.parts = s.S.parts
  opn : s'.S.opn = s.S.opn
  closed : s'.S.closed = s.S.closed
section
variable {s s' s2 : RSt} {j j2 : Nat} {h h2 : Int}
theorem Went.refl (s : RSt) : Went 0 0 s s := ⟨rfl, rfl, rfl, by omega, rfl, rfl, rfl⟩
theorem Went.trans (a : Went j h s s') (b : Went j2 h2 s' s2) : Went (j2 + j) (h + h2) s s2 :=
  ⟨by rw [b.D, a.D, DSt.readsN_add], b.next.trans a.next, b.limit.trans a.limit, by rw [b.hand, a.hand]; omega, b.parts.trans a.parts, b.opn.trans a.opn, b.closed.trans a.closed⟩
theorem Went.calm {block : Int} {fs : List (ByteArray × AFile)} (a : Went j h s s') (c : Calm s.D block fs) : Calm s'.D block fs := by rw [a.D]; exact c.readsN j
theorem Went.of_eq {i : Nat} {k : Int} (a : Went j h s s') (e : j = i) (e2 : h = k) : Went i k s s' := by subst e e2; exact a
/-- One read. -/
theorem Went.read (s : RSt) : Went 1 0 s { s with D := s.D.readsN 1 } := ⟨rfl, rfl, rfl, by show s.S.hand = _; omega, rfl, rfl, rfl⟩
theorem Went.take {K : Nat} (s : RSt) (hc : s.S.closed = false) (hf : (K : Int) ≤ s.S.limit - (s.S.hand + s.S.parts)) : Went 0 K s { s with S := s.S.take K } := by
  have ha : s.S.asked K = 0 := by
    unfold PSt.asked
    rw [hc, if_neg (by simp), if_neg (by omega), if_neg (by omega)]
  have e : s.S.take K = s.S.took K := by unfold PSt.take; rw [if_pos ha]
  rw [e]
  exact ⟨rfl, rfl, rfl, rfl, rfl, rfl, rfl⟩
theorem Went.give {K : Nat} (s : RSt) (hc : s.S.closed = false) (hh : (K : Int) ≤ s.S.hand) : Went 0 (-(K : Int)) s { s with S := s.S.give K } := by
  have hg : s.S.gives K = 0 := by
    unfold PSt.gives
    rw [hc, if_neg (by simp), if_neg (by omega), if_neg (by omega)]
  have e : s.S.give K = { s.S with hand := s.S.hand - K } := by unfold PSt.give; rw [if_pos hg]
  rw [e]
  exact ⟨rfl, rfl, rfl, by show s.S.hand - K = _; omega, rfl, rfl, rfl⟩
theorem frees_open {S : PSt} (hc : S.closed = false) : S.frees = S.limit - (S.hand + S.parts) := by unfold PSt.frees; rw [hc]; simp
end

/-- What Read and Back come to at a tape. -/
theorem open_tape {c : Cx} {fs : List (ByteArray × AFile)} {name : ByteArray} {kind kind2 : Nat} {L : List R4} {s : RSt} (t : TapeOn c fs name kind L) (hc : Calm s.D c.block fs) (hk : 1 ≤ kind2 ∧ kind2 ≤ 5) (hcl : s.S.closed = false) (hf : (c.K : Int) ≤ s.S.limit - (s.S.hand + s.S.parts)) :
    openR s.D s.S c.K name kind2 = (0, s.S.take c.K) := by
  unfold openR
  rw [if_neg (by omega), t.readable hc, if_neg (by simp), frees_open hcl, if_neg (by omega)]
end Go.Proofs.YtadipinnbehhhaaGreatDoor
