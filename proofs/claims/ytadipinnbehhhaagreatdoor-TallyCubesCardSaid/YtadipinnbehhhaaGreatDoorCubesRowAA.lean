/- Words on memory that all later texts use: a block that is known whole; what a call keeps; draws. A map with text keys, as a list of keys and values in the order of their coming: look up, put a new key, delete. errors.Is over the disk's errors, and 'told'. 'told': an error of the disk as its number. The disk in memory: what it keeps, how that lies in blocks, and that it stays. Which texts are names. Disk: the file of a name; whether the power is on; lengths. Disk: a call gets its number, and what befalls it. -/
import Derived.Test.YtadipinnbehhhaaGreatDoorProg
import Derived.WalkKit
import Derived.WalkSpells
import Derived.WalkLawsBesides
import Derived.KernelRfl
import Derived.Deep.QuietTactic
import Derived.BigQuiet
import Derived.MapKept
import Derived.LaidEql
import Derived.Stop.Asserts
import Derived.RowKitTokens
import Derived.Deep.LoopGhost
namespace Go.Proofs.YtadipinnbehhhaaGreatDoor
open Go.RowKit

theorem Hid.intro_ {p : Prop} (h : p) : Hid p := h
def Blk (w : World) (g : Nat) (t : TypeId) (cs : Array Value) : Prop := w.heap[g]? = some (.cells cs t (0, 0))
section
variable {w w' : World} {g : Nat} {t : TypeId} {cs : Array Value}
theorem lt_of_heap {o : Obj} (h : w.heap[g]? = some o) : g < w.heap.size := by
  rcases Nat.lt_or_ge g w.heap.size with hlt | hge
  · exact hlt
  · rw [Array.getElem?_eq_none hge] at h; cases h
theorem Blk.lt (h : Blk w g t cs) : g < w.heap.size := lt_of_heap h
theorem Blk.at_ (h : Blk w g t cs) (i : Nat) : w.cell? ⟨g, i, none⟩ = cs[i]? := by
  unfold Blk at h; simp [World.cell?, h]
theorem Blk.fr (h : Blk w g t cs) (i : Nat) : w.frozen? ⟨g, i, none⟩ = false := by
  unfold Blk at h; simp [World.frozen?, h]
theorem Blk.new (w : World) (t : TypeId) (cs : Array Value) : Blk (w.alloc (.cells cs t)) w.heap.size t cs := by
  unfold Blk World.alloc; simp
theorem Blk.new_at (w : World) (t : TypeId) (cs : Array Value) {n : Nat} (hn : w.heap.size = n) : Blk (w.alloc (.cells cs t)) n t cs := by subst hn; exact Blk.new w t cs
theorem Blk.of_heap (h : Blk w g t cs) (e : w'.heap[g]? = w.heap[g]?) : Blk w' g t cs := e.trans h
theorem Blk.drewN (h : Blk w g t cs) (n : Nat) : Blk (w.drewN n) g t cs := h
theorem Blk.drew (h : Blk w g t cs) : Blk w.drew g t cs := h
theorem Blk.alloc (h : Blk w g t cs) (o : Obj) : Blk (w.alloc o) g t cs := (Below.heap_alloc w o g h.lt).trans h
theorem Blk.set_ (h : Blk w g t cs) (i : Nat) (u : Value) : Blk (w.setCell ⟨g, i, none⟩ u) g t (cs.setIfInBounds i u) := by
  unfold Blk at h ⊢
  simp [World.setCell, Array.getElem?_modify, h]
theorem Blk.far (h : Blk w g t cs) {p : Addr} (hp : g ≠ p.block) (u : Value) : Blk (w.setCell p u) g t cs := (Below.heap_setCell w p u g hp).trans h
theorem Blk.ne_ {g' : Nat} {t' : TypeId} {cs' : Array Value} (h : Blk w g t cs) (h' : Blk w g' t' cs') (hne : t ≠ t') : g ≠ g' := by
  rintro rfl
  unfold Blk at h h'
  rw [h] at h'
  injection h' with h'
  injection h' with _ ht
  exact hne ht
end

structure Keep (F : Nat → Prop) (w w' : World) : Prop where
  os : w'.os = w.os
  tape : w'.tape = w.tape
  output : w'.output = w.output
  size : w.heap.size ≤ w'.heap.size
  same : ∀ b, b < w.heap.size → ¬ F b → w'.heap[b]? = w.heap[b]?
def Nil : Nat → Prop := fun _ => False
section
variable {w w' w2 : World} {F G : Nat → Prop}
theorem Keep.refl (F : Nat → Prop) (w : World) : Keep F w w := ⟨rfl, rfl, rfl, Nat.le_refl _, fun _ _ _ => rfl⟩
theorem Keep.trans (h : Keep F w w') (k : Keep G w' w2) (hG : ∀ b, b < w.heap.size → G b → F b) : Keep F w w2 :=
  ⟨k.os.trans h.os, k.tape.trans h.tape, k.output.trans h.output, Nat.le_trans h.size k.size,
   fun b hb hn => (k.same b (Nat.lt_of_lt_of_le hb h.size) (fun hg => hn (hG b hb hg))).trans (h.same b hb hn)⟩
theorem Keep.then_ (h : Keep F w w') (k : Keep F w' w2) : Keep F w w2 := h.trans k (fun _ _ h => h)
theorem Keep.mono (h : Keep F w w') (hs : ∀ b, b < w.heap.size → F b → G b) : Keep G w w' := ⟨h.os, h.tape, h.output, h.size, fun b hb hn => h.same b hb (fun hf => hn (hs b hb hf))⟩
theorem Keep.drewN (h : Keep F w w') (n : Nat) : Keep F w (w'.drewN n) := ⟨h.os, h.tape, h.output, h.size, h.same⟩
theorem Keep.drew (h : Keep F w w') : Keep F w w'.drew := ⟨h.os, h.tape, h.output, h.size, h.same⟩
theorem Keep.alloc (h : Keep F w w') (o : Obj) : Keep F w (w'.alloc o) :=
  ⟨h.os, h.tape, h.output, by have := h.size; simp; omega, fun b hb hn => (Below.heap_alloc w' o b (Nat.lt_of_lt_of_le hb h.size)).trans (h.same b hb hn)⟩
theorem Keep.setCell (h : Keep F w w') {p : Addr} (hp : p.block < w.heap.size → F p.block) (u : Value) : Keep F w (w'.setCell p u) :=
  ⟨h.os, h.tape, h.output, by have := h.size; simpa [World.setCell] using this, fun b hb hn => (Below.heap_setCell w' p u b (fun e => by subst e; exact hn (hp hb))).trans (h.same b hb hn)⟩
theorem Keep.below (h : Keep F w w') {B : Nat} (hF : ∀ b, b < B → b < w.heap.size → ¬ F b) (hB : B ≤ w.heap.size) : Below B w w' :=
  ⟨h.os, h.tape, h.output, h.size, fun b hb => h.same b (by omega) (hF b hb (by omega))⟩
theorem Blk.keep {g : Nat} {t : TypeId} {cs : Array Value} (h : Blk w g t cs) (k : Keep F w w') (hn : ¬ F g) : Blk w' g t cs := (k.same g h.lt hn).trans h
end

structure Drawn (w w' : World) : Prop where mk :: (out : ∃ n, w' = w.drewN n)
theorem Drawn.refl (w : World) : Drawn w w := ⟨⟨0, rfl⟩⟩
theorem Drawn.keep {w w' : World} (h : Drawn w w') : Keep Nil w w' := by
  obtain ⟨n, rfl⟩ := h.out
  exact (Keep.refl _ _).drewN n
end Go.Proofs.YtadipinnbehhhaaGreatDoor
namespace Go.Proofs.YtadipinnbehhhaaGreatDoor
open Go.RowKit Go.MapKept

def pos (s : ByteArray) : List (ByteArray × Value) → Option (Nat × Value)
  | [] => none
  | (k, v) :: r => if s = k then some (0, v) else (pos s r).map fun q => (q.1 + 1, q.2)
def KV (es : List MapEntry) (l : List (ByteArray × Value)) : Prop := es.map (fun e => (e.key, e.val)) = l.map fun p => (Value.string p.1, p.2)
theorem beq_bytes (a b : ByteArray) : (a == b) = decide (a = b) := by
  by_cases h : a = b
  · subst h
    simp only [decide_true]
    rcases a with ⟨a⟩
    first | rfl | (show (a == a) = true; simp) | simp
  · simp only [h, decide_false]
    rcases a with ⟨a⟩
    rcases b with ⟨b⟩
    have h' : ¬ a = b := fun e => h (by rw [e])
    first | (show (a == b) = false; simp [h']) | simp [h]
theorem findNow_str (s : ByteArray) : ∀ (es : List MapEntry) (l : List (ByteArray × Value)) (i : Nat), KV es l →
    Instr.findNow .string (.string s) es i = some ((pos s l).map fun q => (i + q.1, q.2))
  | [], [], i, _ => rfl
  | [], _ :: _, _, h => by simp [KV] at h
  | _ :: _, [], _, h => by simp [KV] at h
  | e :: es, (k, v) :: l, i, h => by
    simp only [KV, List.map_cons, List.cons.injEq, Prod.mk.injEq] at h
    obtain ⟨⟨h1, h2⟩, h3⟩ := h
    have ih := findNow_str s es l (i + 1) h3
    rcases e with ⟨ek, ev, eb⟩
    simp only at h1 h2
    subst h1 h2
    simp only [Instr.findNow, Instr.sameNow, beq_bytes, pos]
    by_cases q : s = k
    · simp [q]
    · simp only [q, decide_false, if_false, ih]
      cases pos s l with
      | none => rfl
      | some r => simp [Nat.add_comm, Nat.add_left_comm]
theorem pos_not {s : ByteArray} : ∀ {l : List (ByteArray × Value)}, pos s l = none → ∀ p ∈ l, p.1 ≠ s
  | [], _, p, hp => by simp at hp
  | (k, v) :: l, h, p, hp => by
    unfold pos at h
    split at h
    · cases h
    · rename_i hne
      rcases List.mem_cons.1 hp with rfl | hp
      · exact fun e => hne e.symm
      · exact pos_not (by simpa using h) p hp
theorem kv_new {es : Array MapEntry} {l : List (ByteArray × Value)} {s : ByteArray} (h : KV es.toList l) (hn : pos s l = none) : ∀ x ∈ es.toList, x.key ≠ .string s := by
  intro x hx e
  have hm : (x.key, x.val) ∈ es.toList.map (fun e => (e.key, e.val)) := List.mem_map.2 ⟨x, hx, rfl⟩
  rw [show es.toList.map (fun e => (e.key, e.val)) = l.map fun p => (Value.string p.1, p.2) from h] at hm
  obtain ⟨p, hp, he⟩ := List.mem_map.1 hm
  injection he with he _
  rw [e] at he
  injection he with he
  exact pos_not hn p hp he
def MapAt (w : World) (mb : Nat) (l : List (ByteArray × Value)) : Prop := ∃ es clock, w.heap[mb]? = some (.map es clock) ∧ KV es.toList l ∧ Go.MapKept.Stamped es clock
theorem MapAt.of_heap {w w' : World} {mb : Nat} {l : List (ByteArray × Value)} (h : MapAt w mb l) (e : w'.heap[mb]? = w.heap[mb]?) : MapAt w' mb l := by
  obtain ⟨es, clock, h1, h2⟩ := h
  exact ⟨es, clock, e.trans h1, h2⟩
theorem MapAt.lt {w : World} {mb : Nat} {l : List (ByteArray × Value)} (h : MapAt w mb l) : mb < w.heap.size := by
  obtain ⟨es, clock, h1, h2⟩ := h
  exact lt_of_heap h1
theorem MapAt.ne {w : World} {mb g : Nat} {l : List (ByteArray × Value)} {t : TypeId} {cs : Array Value} (h : MapAt w mb l) (hb : Blk w g t cs) : mb ≠ g := by
  obtain ⟨es, clock, h1, h2⟩ := h
  rintro rfl
  unfold Blk at hb
  rw [h1] at hb
  cases hb
section
variable {P : Program} {w : World} {mb : Nat} {l : List (ByteArray × Value)} {T K E : TypeId}

theorem MapAt.look (h : MapAt w mb l) (hT : P.underlying T = some (.map K E)) (hK : P.underlying K = some .string) {z : Value} (hz : (zeroValue E).run P w = .ok z w) (s : ByteArray) :
    (Instr.lookup T (.map (some mb)) (.string s) false).run P w = .ok (((pos s l).map (·.2)).getD z) w := by
  obtain ⟨es, clock, h1, h2⟩ := h
  have hf := findNow_str s es.toList l 0 h2.1
  unfold Instr.lookup
  simp only [Sem.run_bind, run_underlying hT, Result.andThen_ok, Go.MapKept.run_getObj_map h1, Sem.run_pure,
    Go.MapKept.run_checkKey hK (k := .string s) (by simp [IsKey]) _ 9999, Go.MapKept.run_findKey hK hf]
  cases hp : pos s l with
  | none => simp [hz]
  | some q => simp
theorem MapAt.put (h : MapAt w mb l) (hT : P.underlying T = some (.map K E)) (hK : P.underlying K = some .string) (s : ByteArray) (v : Value) (hn : pos s l = none) :
    ∃ w', (Instr.mapUpdate T (.map (some mb)) (.string s) v).run P w = .ok () w' ∧ MapAt w' mb (l ++ [(s, v)]) ∧ w'.heap.size = w.heap.size ∧ w'.os = w.os ∧ w'.tape = w.tape ∧ w'.output = w.output ∧ ∀ b, b ≠ mb → w'.heap[b]? = w.heap[b]? := by
  obtain ⟨es, clock, h1, h2⟩ := h
  have hf := findNow_str s es.toList l 0 h2.1
  rw [hn] at hf
  refine ⟨{ w with heap := w.heap.setIfInBounds mb (.map (es.push { key := .string s, val := v, born := clock }) (clock + 1)) }, ?_, ?_, by simp, rfl, rfl, rfl, (heap_set h1).2⟩
  · unfold Instr.mapUpdate
    simp only [Sem.run_bind, run_underlying hT, Result.andThen_ok, Go.MapKept.run_getObj_map h1,
      Go.MapKept.run_checkKey hK (k := .string s) (by simp [IsKey]) _ 9999, Go.MapKept.run_findKey hK hf, Option.map_none, Go.MapKept.run_setObj_map _ h1]
  · refine ⟨_, _, (heap_set h1).1, ?_, Go.MapKept.stamped_push h2.2 (kv_new h2.1 hn)⟩
    have h3 := h2.1
    unfold KV at h3 ⊢
    simp [h3]
end
end Go.Proofs.YtadipinnbehhhaaGreatDoor
namespace Go.Proofs.YtadipinnbehhhaaGreatDoor
open Go.RowKit Go.Extern.Stop Go.Stop Go.Extern

theorem isTypeOf (v : Value) (w : World) : (callFunc 262 #[.iface 421 v]).run Tryz.prog w = .ok (.value (.iface 396 (.agg #[.pointer (some ⟨15, 421, none⟩)]))) w := by kernel_rfl
theorem isComparable (w : World) : (callFunc 332 #[.agg #[.pointer (some ⟨15, 421, none⟩)]]).run Tryz.prog w = .ok (.value (.bool true)) w := by kernel_rfl
theorem isMethodComparable (v : Value) (w : World) : (Go.method 555 396 v "Comparable").run Tryz.prog w = .ok (332, v) w := by kernel_rfl
theorem methodUnwrap (v : Value) (w : World) : (Go.method 555 297 v "Unwrap").run Tryz.prog w = .ok (328, v) w := by kernel_rfl
theorem isComp : (Tryz.prog.info? 421).map (·.comparable) = some true := by kernel_rfl
theorem isSize : (Tryz.prog.info? 444).map (·.size) = some 1 := by kernel_rfl
theorem noIsE (v : Value) (xT : TypeId) (w : World) : (Instr.typeAssert (.iface 421 v) xT 398 true).run Tryz.prog w = .ok (.tuple #[.nilIface, .bool false]) w := run_typeAssert_lacksB Tryz.underlying398 (by kernel_rfl) (by kernel_rfl) v xT w
theorem noUnwrapE (v : Value) (xT : TypeId) (w : World) : (Instr.typeAssert (.iface 421 v) xT 401 true).run Tryz.prog w = .ok (.tuple #[.nilIface, .bool false]) w := run_typeAssert_lacksB Tryz.underlying401 (by kernel_rfl) (by kernel_rfl) v xT w
theorem noUnwrapsE (v : Value) (xT : TypeId) (w : World) : (Instr.typeAssert (.iface 421 v) xT 403 true).run Tryz.prog w = .ok (.tuple #[.nilIface, .bool false]) w := run_typeAssert_lacksB Tryz.underlying403 (by kernel_rfl) (by kernel_rfl) v xT w
theorem noIsA (v : Value) (xT : TypeId) (w : World) : (Instr.typeAssert (.iface 297 v) xT 398 true).run Tryz.prog w = .ok (.tuple #[.nilIface, .bool false]) w := run_typeAssert_lacksB Tryz.underlying398 (by kernel_rfl) (by kernel_rfl) v xT w
theorem hasUnwrapA (v : Value) (xT : TypeId) (w : World) : (Instr.typeAssert (.iface 297 v) xT 401 true).run Tryz.prog w = .ok (.tuple #[.iface 297 v, .bool true]) w := run_typeAssert_hasB Tryz.underlying401 (by kernel_rfl) v xT w
set_option maxRecDepth 100000 in
set_option maxHeartbeats 400000 in
theorem is_same (a : Addr) (w : World) :
    Calls Tryz.prog 225 #[.iface 421 (.pointer (some a)), .iface 421 (.pointer (some a))] w fun e w' => e = .returned (.bool true) ∧ w' = w := by
  obtain ⟨i, hi, hcmp⟩ := Option.map_eq_some_iff.1 isComp
  obtain ⟨j, hj, hjs⟩ := Option.map_eq_some_iff.1 isSize
  have tT := isTypeOf
  have cT := isComparable
  have mR := isMethodComparable
  have heq := run_eql_iface_ptr_same (P := Tryz.prog) w a Tryz.underlying295 Tryz.underlying421 hi hcmp hj
  go_enter Tryz.func225, Tryz.ntmps225
  go_wp2
  refine wp_loop_rounds 1 ?_
  rw [rounds_succ]
  go_wp2
  go_ret
  exact ⟨rfl, rfl⟩
set_option maxRecDepth 100000 in
set_option maxHeartbeats 400000 in
theorem is_other (a b : Addr) (ca cb : Array Value) (ta tb : TypeId) (w : World) (hne : a ≠ b) (ha : w.heap[a.block]? = some (.cells ca ta (0, 0))) (hb : w.heap[b.block]? = some (.cells cb tb (0, 0))) :
    Calls Tryz.prog 225 #[.iface 421 (.pointer (some a)), .iface 421 (.pointer (some b))] w fun e w' => e = .returned (.bool false) ∧ w' = w := by
  obtain ⟨i, hi, hcmp⟩ := Option.map_eq_some_iff.1 isComp
  obtain ⟨j, hj, hjs⟩ := Option.map_eq_some_iff.1 isSize
  have tT := isTypeOf
  have cT := isComparable
  have mR := isMethodComparable
  have nE := noIsE
  have uE := noUnwrapE
  have vE := noUnwrapsE
  have heq := run_eql_iface_ptr_other (P := Tryz.prog) w Tryz.underlying295 Tryz.underlying421 hi hcmp hj (by rw [hjs]; decide) hne ha hb
  clear ha hb hne
  go_enter Tryz.func225, Tryz.ntmps225
  go_wp2
  refine wp_loop_rounds 1 ?_
  rw [rounds_succ]
  go_wp2
  go_ret
  exact ⟨rfl, rfl⟩
set_option maxRecDepth 100000 in
set_option maxHeartbeats 400000 in
theorem is_about_same (name : ByteArray) (a : Addr) (w : World) :
    Calls Tryz.prog 225 #[.iface 297 (.agg #[.string name, .iface 421 (.pointer (some a))]), .iface 421 (.pointer (some a))] w fun e w' => e = .returned (.bool true) ∧ Keep Nil w w' := by
  obtain ⟨i, hi, hcmp⟩ := Option.map_eq_some_iff.1 isComp
  obtain ⟨j, hj, hjs⟩ := Option.map_eq_some_iff.1 isSize
  have tT := isTypeOf
  have cT := isComparable
  have mR := isMethodComparable
  have mU := methodUnwrap
  have nA := noIsA
  have uA := hasUnwrapA
  have heq := fun w => run_eql_iface_ptr_same (P := Tryz.prog) w a Tryz.underlying295 Tryz.underlying421 hi hcmp hj
  have hty := fun w => run_eql_iface_types (P := Tryz.prog) 297 421 (.agg #[.string name, .iface 421 (.pointer (some a))]) (.pointer (some a)) Tryz.underlying295 (by decide) w
  go_enter Tryz.func225, Tryz.ntmps225
  go_wp2
  refine wp_loop_rounds 2 ?_
  rw [rounds_succ]
  go_wp2
  rw [rounds_succ]
  go_wp2
  go_ret
  exact ⟨rfl, (Keep.refl _ _).alloc _⟩
set_option maxRecDepth 100000 in
set_option maxHeartbeats 400000 in
theorem is_about_other (name : ByteArray) (a b : Addr) (ca cb : Array Value) (ta tb : TypeId) (w : World) (hne : a ≠ b) (ha : w.heap[a.block]? = some (.cells ca ta (0, 0))) (hb : w.heap[b.block]? = some (.cells cb tb (0, 0))) :
    Calls Tryz.prog 225 #[.iface 297 (.agg #[.string name, .iface 421 (.pointer (some a))]), .iface 421 (.pointer (some b))] w fun e w' => e = .returned (.bool false) ∧ Keep Nil w w' := by
  obtain ⟨i, hi, hcmp⟩ := Option.map_eq_some_iff.1 isComp
  obtain ⟨j, hj, hjs⟩ := Option.map_eq_some_iff.1 isSize
  have tT := isTypeOf
  have cT := isComparable
  have mR := isMethodComparable
  have mU := methodUnwrap
  have nA := noIsA
  have uA := hasUnwrapA
  have nE := noIsE
  have uE := noUnwrapE
  have vE := noUnwrapsE
  have hty := fun w => run_eql_iface_types (P := Tryz.prog) 297 421 (.agg #[.string name, .iface 421 (.pointer (some a))]) (.pointer (some b)) Tryz.underlying295 (by decide) w
  have heq := run_eql_iface_ptr_other (P := Tryz.prog) (w.alloc (.cells #[.string name, .iface 421 (.pointer (some a))] 297)) Tryz.underlying295 Tryz.underlying421 hi hcmp hj (by rw [hjs]; decide) hne
    ((Below.heap_alloc _ _ _ (lt_of_heap ha)).trans ha) ((Below.heap_alloc _ _ _ (lt_of_heap hb)).trans hb)
  clear ha hb hne
  go_enter Tryz.func225, Tryz.ntmps225
  go_wp2
  refine wp_loop_rounds 2 ?_
  rw [rounds_succ]
  go_wp2
  rw [rounds_succ]
  go_wp2
  go_ret
  exact ⟨rfl, (Keep.refl _ _).alloc _⟩
def errVar (k : Nat) : Nat := [0, 1, 5, 2, 4, 6, 7, 8, 3].getD k 0
def errNo (k : Nat) : Int := [10, 11, 12, 13, 14, 15, 16, 17, 9].getD k 0
structure ErrsAt (w : World) (E : Nat → Addr) : Prop where
  var : ∀ k, k < 9 → w.cell? ⟨errVar k, 0, none⟩ = some (.iface 421 (.pointer (some (E k))))
  old : ∀ k, k < 9 → errVar k < w.heap.size
  blk : ∀ k, k < 9 → ∃ cs t, w.heap[(E k).block]? = some (.cells cs t (0, 0))
  ne : ∀ j k, j < 9 → k < 9 → j ≠ k → E j ≠ E k
theorem cell_of_heap {w w' : World} {a : Addr} (h : w'.heap[a.block]? = w.heap[a.block]?) : w'.cell? a = w.cell? a := by
  simp [World.cell?, h]
theorem ErrsAt.keep {w w' : World} {E : Nat → Addr} {F : Nat → Prop} (h : ErrsAt w E) (k : Keep F w w') (h1 : ∀ i, i < 9 → ¬ F (errVar i)) (h2 : ∀ i, i < 9 → ¬ F (E i).block) : ErrsAt w' E :=
  ⟨fun i hi => (cell_of_heap (k.same _ (h.old i hi) (h1 i hi))).trans (h.var i hi), fun i hi => Nat.lt_of_lt_of_le (h.old i hi) k.size,
   fun i hi => by obtain ⟨cs, t, hb⟩ := h.blk i hi; exact ⟨cs, t, (k.same _ (lt_of_heap hb) (h2 i hi)).trans hb⟩, h.ne⟩
set_option maxRecDepth 100000 in
set_option maxHeartbeats 1000000 in
theorem numbers_any (E : Nat → Addr) (w : World) (h : ErrsAt w E) :
    Calls Tryz.prog 224 #[] w fun e w' => ∃ g, e = .returned (.slice (some ⟨g, 0, none⟩) 9 9) ∧ Keep Nil w w' ∧ w.heap.size ≤ g ∧
      (∀ k, k < 9 → w'.cell? ⟨g, k * 2, none⟩ = some (.iface 421 (.pointer (some (E k)))) ∧ w'.cell? ⟨g, k * 2 + 1, none⟩ = some (.int .i64 (errNo k))) := by
  have v0 := h.var 0 (by decide)
  have v1 := h.var 1 (by decide)
  have v2 := h.var 2 (by decide)
  have v3 := h.var 3 (by decide)
  have v4 := h.var 4 (by decide)
  have v5 := h.var 5 (by decide)
  have v6 := h.var 6 (by decide)
  have v7 := h.var 7 (by decide)
  have v8 := h.var 8 (by decide)
  simp only [errVar, List.getD_cons_zero, List.getD_cons_succ] at v0 v1 v2 v3 v4 v5 v6 v7 v8
  go_enter Tryz.func224, Tryz.ntmps224
  go_wp2
  go_ret
  refine ⟨w.heap.size, rfl, (Keep.refl _ _).alloc _, Nat.le_refl _, fun k hk => ?_⟩
  obtain rfl | rfl | rfl | rfl | rfl | rfl | rfl | rfl | rfl : k = 0 ∨ k = 1 ∨ k = 2 ∨ k = 3 ∨ k = 4 ∨ k = 5 ∨ k = 6 ∨ k = 7 ∨ k = 8 := by omega
  all_goals exact ⟨((Blk.new w _ _).at_ _).trans rfl, ((Blk.new w _ _).at_ _).trans rfl⟩
end Go.Proofs.YtadipinnbehhhaaGreatDoor
namespace Go.Proofs.YtadipinnbehhhaaGreatDoor
open Go.RowKit

theorem cell_lt {w : World} {a : Addr} {v : Value} (h : w.cell? a = some v) : a.block < w.heap.size := World.block_lt_of_cell? w a h
theorem cell_keep {w w' : World} {F : Nat → Prop} {a : Addr} {v : Value} (h : w.cell? a = some v) (k : Keep F w w') (hn : ¬ F a.block) : w'.cell? a = some v :=
  (cell_of_heap (k.same _ (cell_lt h) hn)).trans h
theorem told_nil (w : World) : Calls Tryz.prog 186 #[.nilIface] w fun e w' => e = .returned (.int .i64 0) ∧ w' = w := by
  go_enter Tryz.func186, Tryz.ntmps186
  go_wp2
  go_ret
  exact ⟨rfl, rfl⟩
set_option maxRecDepth 100000 in
set_option maxHeartbeats 1000000 in
theorem told_about (name : ByteArray) (E : Nat → Addr) (i : Nat) (w : World) (hi : i < 9) (h : ErrsAt w E) :
    Calls Tryz.prog 186 #[.iface 297 (.agg #[.string name, .iface 421 (.pointer (some (E i)))])] w fun e w' => e = .returned (.int .i64 (errNo i)) ∧ Keep Nil w w' := by
  go_enter Tryz.func186, Tryz.ntmps186
  go_wp2_with (go_at_call 224; refine (numbers_any E _ h).mono ?_; rintro e w1 ⟨g, rfl, hk1, hg, hc⟩
               have HC := Hid.intro_ hc; clear hc hg)
  go_loopw [9] (fun n wr => ∃ k : Nat, k ≤ i ∧ n = .int .i64 k ∧ Keep Nil w1 wr) (fun n _ => i - (intOf n).toNat)
  case atStart => exact ⟨0, Nat.zero_le _, rfl, Keep.refl _ _⟩
  case round =>
    obtain ⟨k, hk, rfl, hkr⟩ := hrel
    have hk9 : k < 9 := by omega
    have c0 : wr.cell? ⟨g, k * 2, none⟩ = some (.iface 421 (.pointer (some (E k)))) := cell_keep (HC.out k hk9).1 hkr (fun h => h)
    have c1 : wr.cell? ⟨g, k * 2 + 1, none⟩ = some (.int .i64 (errNo k)) := cell_keep (HC.out k hk9).2 hkr (fun h => h)
    have hEr : ErrsAt wr E := (h.keep hk1 (fun _ _ h => h) (fun _ _ h => h)).keep hkr (fun _ _ h => h) (fun _ _ h => h)
    have hkn := hkr.alloc (.cells #[.iface 421 (.pointer (some (E k))), .int .i64 (errNo k)] 343)
    have d0 : (wr.alloc (.cells #[.iface 421 (.pointer (some (E k))), .int .i64 (errNo k)] 343)).cell? ⟨wr.heap.size, 1, none⟩ = some (.int .i64 (errNo k)) := (Blk.new wr _ _).at_ 1
    by_cases hki : k = i
    · subst hki
      go_wp2_with (go_at_call 225; refine (is_about_same name (E k) _).mono ?_; rintro e w2 ⟨rfl, hq⟩
                   have hk2 := hq; clear hq
                   have d1 : w2.cell? ⟨wr.heap.size, 1, none⟩ = some (.int .i64 (errNo k)) := cell_keep d0 hk2 (fun h => h))
      go_ret
      exact ⟨rfl, (hk1.then_ hkn).then_ hk2⟩
    · have hlt : k < i := by omega
      obtain ⟨ca, ta, hba⟩ := hEr.blk i hi
      obtain ⟨cb, tb, hbb⟩ := hEr.blk k hk9
      have hba' := (Below.heap_alloc wr (.cells #[.iface 421 (.pointer (some (E k))), .int .i64 (errNo k)] 343) _ (lt_of_heap hba)).trans hba
      have hbb' := (Below.heap_alloc wr (.cells #[.iface 421 (.pointer (some (E k))), .int .i64 (errNo k)] 343) _ (lt_of_heap hbb)).trans hbb
      have hne : E i ≠ E k := hEr.ne i k hi hk9 (by omega)
      have HA := Hid.intro_ hba'
      have HB := Hid.intro_ hbb'
      have HN := Hid.intro_ hne
      have HK := Hid.intro_ hki
      clear hba hbb hba' hbb' hne hki
      go_wp2_with (go_at_call 225; refine (is_about_other name (E i) (E k) ca cb ta tb _ HN.out HA.out HB.out).mono ?_; rintro e w2 ⟨rfl, hq⟩
                   have hk2 := hq; clear hq)
      go_roundw
      case rel => exact ⟨k + 1, by omega, by go_num, hkn.then_ hk2⟩
      case measure => simp [intOf]; omega
set_option maxRecDepth 100000 in
set_option maxHeartbeats 1000000 in
theorem told_sent (E : Nat → Addr) (i : Nat) (w : World) (hi : i < 9) (h : ErrsAt w E) :
    Calls Tryz.prog 186 #[.iface 421 (.pointer (some (E i)))] w fun e w' => e = .returned (.int .i64 (errNo i)) ∧ Keep Nil w w' := by
  go_enter Tryz.func186, Tryz.ntmps186
  go_wp2_with (go_at_call 224; refine (numbers_any E _ h).mono ?_; rintro e w1 ⟨g, rfl, hk1, hg, hc⟩
               have HC := Hid.intro_ hc; clear hc hg)
  go_loopw [9] (fun n wr => ∃ k : Nat, k ≤ i ∧ n = .int .i64 k ∧ Keep Nil w1 wr) (fun n _ => i - (intOf n).toNat)
  case atStart => exact ⟨0, Nat.zero_le _, rfl, Keep.refl _ _⟩
  case round =>
    obtain ⟨k, hk, rfl, hkr⟩ := hrel
    have hk9 : k < 9 := by omega
    have c0 : wr.cell? ⟨g, k * 2, none⟩ = some (.iface 421 (.pointer (some (E k)))) := cell_keep (HC.out k hk9).1 hkr (fun h => h)
    have c1 : wr.cell? ⟨g, k * 2 + 1, none⟩ = some (.int .i64 (errNo k)) := cell_keep (HC.out k hk9).2 hkr (fun h => h)
    have hEr : ErrsAt wr E := (h.keep hk1 (fun _ _ h => h) (fun _ _ h => h)).keep hkr (fun _ _ h => h) (fun _ _ h => h)
    have hkn := hkr.alloc (.cells #[.iface 421 (.pointer (some (E k))), .int .i64 (errNo k)] 343)
    have d0 : (wr.alloc (.cells #[.iface 421 (.pointer (some (E k))), .int .i64 (errNo k)] 343)).cell? ⟨wr.heap.size, 1, none⟩ = some (.int .i64 (errNo k)) := (Blk.new wr _ _).at_ 1
    by_cases hki : k = i
    · subst hki
      go_wp2_with (go_at_call 225; refine (is_same (E k) _).mono ?_; rintro e w2 ⟨rfl, hq⟩
                   have hk2 := (by rw [hq]; exact Keep.refl _ _ : Keep Nil (wr.alloc (.cells #[.iface 421 (.pointer (some (E k))), .int .i64 (errNo k)] 343)) w2); clear hq
                   have d1 : w2.cell? ⟨wr.heap.size, 1, none⟩ = some (.int .i64 (errNo k)) := cell_keep d0 hk2 (fun h => h))
      go_ret
      exact ⟨rfl, (hk1.then_ hkn).then_ hk2⟩
    · have hlt : k < i := by omega
      obtain ⟨ca, ta, hba⟩ := hEr.blk i hi
      obtain ⟨cb, tb, hbb⟩ := hEr.blk k hk9
      have hba' := (Below.heap_alloc wr (.cells #[.iface 421 (.pointer (some (E k))), .int .i64 (errNo k)] 343) _ (lt_of_heap hba)).trans hba
      have hbb' := (Below.heap_alloc wr (.cells #[.iface 421 (.pointer (some (E k))), .int .i64 (errNo k)] 343) _ (lt_of_heap hbb)).trans hbb
      have hne : E i ≠ E k := hEr.ne i k hi hk9 (by omega)
      have HA := Hid.intro_ hba'
      have HB := Hid.intro_ hbb'
      have HN := Hid.intro_ hne
      have HK := Hid.intro_ hki
      clear hba hbb hba' hbb' hne hki
      go_wp2_with (go_at_call 225; refine (is_other (E i) (E k) ca cb ta tb _ HN.out HA.out HB.out).mono ?_; rintro e w2 ⟨rfl, hq⟩
                   have hk2 := (by rw [hq]; exact Keep.refl _ _ : Keep Nil (wr.alloc (.cells #[.iface 421 (.pointer (some (E k))), .int .i64 (errNo k)] 343)) w2); clear hq)
      go_roundw
      case rel => exact ⟨k + 1, by omega, by go_num, hkn.then_ hk2⟩
      case measure => simp [intOf]; omega
end Go.Proofs.YtadipinnbehhhaaGreatDoor
namespace Go.Proofs.YtadipinnbehhhaaGreatDoor
open Go.RowKit

structure Tr where
  at_ : Int
  kind : Int
  bytes : Int
structure AFile where
  done : Bool
  blocks : List (List Int)
structure DSt where
  on : Bool
  block : Int
  room : Int
  files : List (ByteArray × AFile)
  trs : List Tr
  calls : Int
  reads : Int
  appends : Int
  faults : Int
  full : Int
  used : Int
  most : Int
def total (fs : List (ByteArray × AFile)) : Nat := (fs.map fun f => f.2.blocks.length).sum
structure DSt.Ok (D : DSt) : Prop where
  b0 : 64 ≤ D.block
  b1 : D.block ≤ 65536
  r0 : 0 ≤ D.room
  r1 : D.room ≤ 1099511627776
  used : D.used = total D.files
  le : D.used ≤ D.room
  most : D.most ≤ D.room
  m0 : 0 ≤ D.most
  size : ∀ f ∈ D.files, ∀ b ∈ f.2.blocks, (b.length : Int) = D.block
  byte : ∀ f ∈ D.files, ∀ b ∈ f.2.blocks, ∀ x ∈ b, 0 ≤ x ∧ x ≤ 255
  names : (D.files.map (·.1)).Nodup
def Rd (w : World) (A : Option Addr) (xs : List Value) : Prop := ∀ j u, xs[j]? = some u → ∃ ad, A = some ad ∧ w.cell? (ad.add j) = some u
theorem add_block (a : Addr) (n : Nat) : (a.add n).block = a.block := by unfold Addr.add; split <;> rfl
theorem Rd.keep {w w' : World} {F : Nat → Prop} {A : Option Addr} {xs : List Value} (h : Rd w A xs) (k : Keep F w w') (hn : ∀ ad, A = some ad → xs ≠ [] → ¬ F ad.block) : Rd w' A xs := fun j u hu => by
  obtain ⟨ad, e, hc⟩ := h j u hu
  refine ⟨ad, e, cell_keep hc k ?_⟩
  rw [add_block]
  exact hn ad e (by rintro rfl; simp at hu)
theorem Rd.nil (w : World) (A : Option Addr) : Rd w A [] := fun j u hu => by simp at hu
def by8 (bs : List Int) : List Value := bs.map fun x => .int .u8 x
theorem by8_len (bs : List Int) : (by8 bs).length = bs.length := by simp [by8]
structure BlkV (w : World) (F : Nat → Prop) (v : Value) (bs : List Int) : Prop where mk ::
  out : ∃ a c, v = .slice (some a) bs.length c ∧ Rd w (some a) (by8 bs) ∧ F a.block ∧ ∃ cs fr, w.heap[a.block]? = some (.cells cs 5 fr)
structure FileAt (w : World) (F : Nat → Prop) (r : Nat × Value) (f : AFile) : Prop where
  blk : Blk w r.1 160 #[.int .i64 (if f.done then 1 else 0), r.2]
  inF : F r.1
  row : ∃ vs, w.ownsRow 0 161 1 r.2 f.blocks.length vs ∧ (∀ g, r.2.ownBlock = some g → F g) ∧ ∀ (j : Nat) (u : Value) (bs : List Int), vs[j]? = some u → f.blocks[j]? = some bs → BlkV w F u bs
def Tr.vals (t : Tr) : List Value := [.int .i64 t.at_, .int .i64 t.kind, .int .i64 t.bytes]
def trCells (l : List Tr) : List Value := l.flatMap Tr.vals
structure DRep where
  mb : Nat
  reps : List (Nat × Value)
  tb : Option Nat
  tc : Nat
def DSt.cells (D : DSt) (R : DRep) : Array Value :=
  #[.bool D.on, .int .i64 D.block, .int .i64 D.room, .map (some R.mb), .slice (R.tb.map fun b => ⟨b, 0, none⟩) D.trs.length R.tc, .int .i64 D.calls, .int .i64 D.reads, .int .i64 D.appends, .int .i64 D.faults, .int .i64 D.full, .int .i64 D.used, .int .i64 D.most]
def links (fs : List (ByteArray × AFile)) (rs : List (Nat × Value)) : List (ByteArray × Value) := List.zipWith (fun f r => (f.1, Value.pointer (some ⟨r.1, 0, none⟩))) fs rs
structure DiskAt (w : World) (F : Nat → Prop) (d : Nat) (D : DSt) (R : DRep) : Prop where
  blk : Blk w d 153 (D.cells R)
  fd : F d
  fm : F R.mb
  map : MapAt w R.mb (links D.files R.reps)
  len : R.reps.length = D.files.length
  fbs : (R.reps.map (·.1)).Nodup
  file : ∀ (i : Nat) (f : ByteArray × AFile) (r : Nat × Value), D.files[i]? = some f → R.reps[i]? = some r → FileAt w F r f.2
  row : ∀ (i j : Nat) (r s : Nat × Value) (g : Nat), R.reps[i]? = some r → R.reps[j]? = some s → r.2.ownBlock = some g → s.2.ownBlock = some g → i = j
  trs : ∀ (j : Nat) (u : Value), (trCells D.trs)[j]? = some u → ∃ b, R.tb = some b ∧ w.cell? ⟨b, j, none⟩ = some u
  ftr : ∀ b, R.tb = some b → F b ∧ ∃ cs fr, w.heap[b]? = some (.cells cs 290 fr)
  tcl : D.trs.length ≤ R.tc
  tcm : R.tc ≤ maxLen
  lt : ∀ b, F b → b < w.heap.size
  ok : D.Ok
structure Stp (w : World) (F : Nat → Prop) (w' : World) (F' : Nat → Prop) : Prop where
  keep : Keep F w w'
  grow : ∀ b, F' b → F b ∨ w.heap.size ≤ b
section
variable {w w' w2 : World} {F F' F2 G : Nat → Prop}
theorem Stp.refl (w : World) (F : Nat → Prop) : Stp w F w F := ⟨Keep.refl _ _, fun _ h => .inl h⟩
theorem Stp.trans (h : Stp w F w' F') (k : Stp w' F' w2 F2) : Stp w F w2 F2 :=
  ⟨h.keep.trans k.keep (fun b hb hf => (h.grow b hf).elim id (fun hl => by omega)), fun b hb => (k.grow b hb).elim (h.grow b) (fun hl => .inr (Nat.le_trans h.keep.size hl))⟩
theorem Stp.of_nil (h : Keep Nil w w') (F : Nat → Prop) : Stp w F w' F := ⟨h.mono (fun _ _ h => h.elim), fun _ h => .inl h⟩
theorem Stp.then_nil (h : Stp w F w' F') (k : Keep Nil w' w2) : Stp w F w2 F' := h.trans (Stp.of_nil k _)
theorem own_keep {base : Nat} {e : TypeId} {size n : Nat} {v : Value} {xs : List Value} (h : w.ownsRow base e size v n xs) (k : Keep G w w') (hn : ∀ g, v.ownBlock = some g → ¬ G g) : w'.ownsRow base e size v n xs := by
  obtain ⟨h1, h2⟩ := h
  refine ⟨h1, ?_⟩
  rcases h2 with h2 | ⟨g, cap, cur, hv, hb, hh, r⟩
  · exact .inl h2
  · exact .inr ⟨g, cap, cur, hv, hb, (k.same g (lt_of_heap hh) (hn g (by rw [hv]; rfl))).trans hh, r⟩
theorem own_more {base base' : Nat} {e : TypeId} {size n : Nat} {v : Value} {xs : List Value} (h : w.ownsRow base e size v n xs) (hb : base' ≤ base) : w.ownsRow base' e size v n xs := by
  obtain ⟨h1, h2⟩ := h
  refine ⟨h1, ?_⟩
  rcases h2 with h2 | ⟨g, cap, cur, hv, hg, r⟩
  · exact .inl h2
  · exact .inr ⟨g, cap, cur, hv, by omega, r⟩
theorem BlkV.keep {v : Value} {bs : List Int} (h : BlkV w F v bs) (k : Keep G w w') (hG : ∀ b cs fr, F b → w.heap[b]? = some (.cells cs 5 fr) → ¬ G b) : BlkV w' F v bs := by
  obtain ⟨a, c, e, hr, hf, cs, fr, hb⟩ := h.out
  have hn := hG _ cs fr hf hb
  exact ⟨a, c, e, hr.keep k (fun ad e _ => by injection e with e; subst e; exact hn), hf, cs, fr, (k.same _ (lt_of_heap hb) hn).trans hb⟩
theorem BlkV.mono {v : Value} {bs : List Int} (h : BlkV w F v bs) (hF : ∀ b, F b → F' b) : BlkV w F' v bs := by
  obtain ⟨a, c, e, hr, hf, r⟩ := h.out
  exact ⟨a, c, e, hr, hF _ hf, r⟩
theorem FileAt.mono {r : Nat × Value} {f : AFile} (h : FileAt w F r f) (hF : ∀ b, F b → F' b) : FileAt w F' r f := by
  obtain ⟨h1, h2, vs, h3, h4, h5⟩ := h
  exact ⟨h1, hF _ h2, vs, h3, fun g hg => hF g (h4 g hg), fun j u bs hu hb => (h5 j u bs hu hb).mono hF⟩
theorem FileAt.keep {r : Nat × Value} {f : AFile} (h : FileAt w F r f) (k : Keep G w w') (h1 : ¬ G r.1) (h2 : ∀ g, r.2.ownBlock = some g → ¬ G g) (hG : ∀ b cs fr, F b → w.heap[b]? = some (.cells cs 5 fr) → ¬ G b) : FileAt w' F r f := by
  obtain ⟨g1, g2, vs, g3, g4, g5⟩ := h
  exact ⟨g1.keep k h1, g2, vs, own_keep g3 k h2, g4, fun j u bs hu hb => (g5 j u bs hu hb).keep k hG⟩
theorem DiskAt.keep {d : Nat} {D : DSt} {R : DRep} (h : DiskAt w F d D R) (k : Keep G w w') (hG : ∀ b, F b → ¬ G b) : DiskAt w' F d D R := {
  blk := h.blk.keep k (hG _ h.fd)
  fd := h.fd
  fm := h.fm
  map := h.map.of_heap (k.same _ h.map.lt (hG _ h.fm))
  len := h.len
  fbs := h.fbs
  file := fun i f r hf hr => by
    have g := h.file i f r hf hr
    exact g.keep k (hG _ g.inF) (fun x hx => by obtain ⟨vs, _, g4, _⟩ := g.row; exact hG _ (g4 x hx)) (fun b _ _ hb _ => hG b hb)
  row := h.row
  trs := fun j u hu => by
    obtain ⟨b, e, hc⟩ := h.trs j u hu
    exact ⟨b, e, cell_keep hc k (hG _ (h.ftr b e).1)⟩
  ftr := fun b e => by
    obtain ⟨g1, cs, fr, g2⟩ := h.ftr b e
    exact ⟨g1, cs, fr, (k.same _ (lt_of_heap g2) (hG _ g1)).trans g2⟩
  tcl := h.tcl
  tcm := h.tcm
  lt := fun b hb => Nat.lt_of_lt_of_le (h.lt b hb) k.size
  ok := h.ok }
theorem DiskAt.nil {d : Nat} {D : DSt} {R : DRep} (h : DiskAt w F d D R) (k : Keep Nil w w') : DiskAt w' F d D R := h.keep k (fun _ _ h => h)
theorem DiskAt.trne {d : Nat} {D : DSt} {R : DRep} (h : DiskAt w F d D R) (b : Nat) (e : R.tb = some b) : ¬ b = d := by
  obtain ⟨g1, cs, fr, g2⟩ := h.ftr b e
  rintro rfl
  have := h.blk
  unfold Blk at this
  rw [g2] at this
  injection this with this
  injection this with _ this
  exact absurd this (by decide)
theorem DiskAt.turn {d : Nat} {D D' : DSt} {R : DRep} (h : DiskAt w F d D R) (k : Keep (fun b => b = d) w w') (hb : Blk w' d 153 (D'.cells R)) (hf : D'.files = D.files) (ht : D'.trs = D.trs) (ho : D'.Ok) : DiskAt w' F d D' R := {
  blk := hb
  fd := h.fd
  fm := h.fm
  map := by rw [hf]; exact h.map.of_heap (k.same _ h.map.lt (h.map.ne h.blk))
  len := by rw [hf]; exact h.len
  fbs := h.fbs
  file := fun i f r hi hr => by
    rw [hf] at hi
    have g := h.file i f r hi hr
    refine g.keep k (Ne.symm (Blk.ne_ h.blk g.blk (by decide))) (fun x hx => ?_) (fun b cs fr _ hb2 => ?_)
    · obtain ⟨vs, g3, _, _⟩ := g.row
      intro hd
      rcases g3.2 with ⟨e, _⟩ | ⟨g', cap, cur, e, _, hh, _⟩
      · rw [e] at hx; simp [Value.ownBlock] at hx
      · rw [e] at hx
        have e2 : g' = x := by simpa [Value.ownBlock] using hx
        exact Blk.ne_ h.blk (show Blk w g' _ cur from hh) (by decide) (by rw [e2]; exact hd.symm)
    · rintro rfl
      have := h.blk
      unfold Blk at this
      rw [hb2] at this
      injection this with this
      injection this with _ this
      exact absurd this (by decide)
  row := h.row
  trs := fun j u hu => by
    rw [ht] at hu
    obtain ⟨b, e, hc⟩ := h.trs j u hu
    exact ⟨b, e, cell_keep hc k (h.trne b e)⟩
  ftr := fun b e => by
    obtain ⟨g1, cs, fr, g2⟩ := h.ftr b e
    exact ⟨g1, cs, fr, (k.same _ (lt_of_heap g2) (h.trne b e)).trans g2⟩
  tcl := by rw [ht]; exact h.tcl
  tcm := h.tcm
  lt := fun b hb => Nat.lt_of_lt_of_le (h.lt b hb) k.size
  ok := ho }
end
end Go.Proofs.YtadipinnbehhhaaGreatDoor
namespace Go.Proofs.YtadipinnbehhhaaGreatDoor
open Go.RowKit

def okByte (c : UInt8) : Bool := (decide (97 ≤ c.toNat) && decide (c.toNat ≤ 122)) || (decide (48 ≤ c.toNat) && decide (c.toNat ≤ 57)) || decide (c.toNat = 45) || decide (c.toNat = 46)
def okName (s : ByteArray) : Bool := decide (1 ≤ s.size) && decide (s.size ≤ 32) && s.data.toList.all okByte
theorem all_take (s : ByteArray) (k : Nat) (h : k < s.size) : (s.data.toList.take (k + 1)).all okByte = ((s.data.toList.take k).all okByte && okByte s[k]) := by
  rw [List.take_succ_eq_append_getElem (by simpa using h), List.all_append]
  simp
  rfl
theorem ok_not {s : ByteArray} {k : Nat} (h : k < s.size) (hn : okByte s[k] = false) : okName s = false := by
  unfold okName
  have : s.data.toList.all okByte = false := by
    rw [List.all_eq_false]
    exact ⟨s[k], by rw [Array.mem_toList_iff]; exact Array.getElem_mem _, by simp [hn]⟩
  simp [this]
set_option maxRecDepth 100000 in
set_option maxHeartbeats 1000000 in
theorem named_any (s : ByteArray) (w : World) :
    Calls Tryz.prog 121 #[.string s] w fun e w' => e = .returned (.bool (okName s)) ∧ w' = w := by
  by_cases h1 : s.size < 1
  · go_enter Tryz.func121, Tryz.ntmps121
    go_wp2
    go_ret
    exact ⟨by simp [okName]; omega, rfl⟩
  by_cases h2 : 32 < s.size
  · go_enter Tryz.func121, Tryz.ntmps121
    go_wp2
    go_ret
    exact ⟨by simp [okName]; omega, rfl⟩
  go_enter Tryz.func121, Tryz.ntmps121
  go_wp2
  go_loop [15] (fun n => ∃ k : Nat, k ≤ s.size ∧ n = .int .i64 k ∧ (s.data.toList.take k).all okByte = true) (fun n => s.size - (intOf n).toNat)
  case atStart => exact ⟨0, Nat.zero_le _, rfl, rfl⟩
  case round =>
    obtain ⟨k, hk, rfl, ha⟩ := hrel
    have HA := Hid.intro_ ha
    clear ha
    by_cases hlt : k < s.size
    · cases hb : okByte s[k]
      · have hno := Hid.intro_ (ok_not hlt hb)
        have hc : s[k].toNat < 45 ∨ (46 < s[k].toNat ∧ s[k].toNat < 48) ∨ (57 < s[k].toNat ∧ s[k].toNat < 97) ∨ 122 < s[k].toNat := by
          simp [okByte] at hb
          omega
        clear hb
        rcases hc with hc | ⟨hc, hc2⟩ | ⟨hc, hc2⟩ | hc
        all_goals
          have e1 : ((s[k].toNat : Int) == 45) = false := by rw [beq_eq_false_iff_ne]; omega
          have e2 : ((s[k].toNat : Int) == 46) = false := by rw [beq_eq_false_iff_ne]; omega
          have d1 : 57 < s[k].toNat → decide ((s[k].toNat : Int) ≤ 57) = false := fun h => by simp; omega
          have d2 : 122 < s[k].toNat → decide ((s[k].toNat : Int) ≤ 122) = false := fun h => by simp; omega
          go_wp2
          all_goals first | (go_ret; exact ⟨by rw [hno.out]; rfl, rfl⟩) | (exfalso; simp at *; omega)
      · have ht := all_take s k hlt
        rw [HA.out, hb] at ht
        have HT := Hid.intro_ ht
        have hc : (97 ≤ s[k].toNat ∧ s[k].toNat ≤ 122) ∨ (48 ≤ s[k].toNat ∧ s[k].toNat ≤ 57) ∨ s[k].toNat = 45 ∨ s[k].toNat = 46 := by
          simp [okByte] at hb
          omega
        clear hb ht
        rcases hc with ⟨hc, hc2⟩ | ⟨hc, hc2⟩ | hc | hc
        all_goals
          go_wp2
          go_round
          case rel => exact ⟨k + 1, by omega, by go_num, HT.out⟩
          case measure => simp [intOf]; omega
    · have hh : okName s = true := by
        have := HA.out
        rw [List.take_of_length_le (by simp; omega)] at this
        simp [okName, this]; omega
      have HH := Hid.intro_ hh
      clear hh
      go_wp2
      go_ret
      exact ⟨by rw [HH.out]; rfl, rfl⟩
end Go.Proofs.YtadipinnbehhhaaGreatDoor
namespace Go.Proofs.YtadipinnbehhhaaGreatDoor
open Go.RowKit

def fpos (s : ByteArray) : List (ByteArray × AFile) → Option (Nat × AFile)
  | [] => none
  | (k, f) :: r => if s = k then some (0, f) else (fpos s r).map fun q => (q.1 + 1, q.2)
theorem pos_links (s : ByteArray) : ∀ (fs : List (ByteArray × AFile)) (rs : List (Nat × Value)), rs.length = fs.length →
    (fpos s fs = none → pos s (links fs rs) = none) ∧ ∀ i f, fpos s fs = some (i, f) → ∃ r, rs[i]? = some r ∧ fs[i]? = some (s, f) ∧ pos s (links fs rs) = some (i, .pointer (some ⟨r.1, 0, none⟩))
  | [], [], _ => ⟨fun _ => rfl, fun i f h => by simp [fpos] at h⟩
  | [], _ :: _, h => by simp at h
  | _ :: _, [], h => by simp at h
  | (k, g) :: fs, r :: rs, h => by
    obtain ⟨h1, h2⟩ := pos_links s fs rs (by simpa using h)
    by_cases q : s = k
    · subst q
      refine ⟨fun hn => by simp [fpos] at hn, fun i f hf => ?_⟩
      simp only [fpos, if_true, Option.some.injEq, Prod.mk.injEq] at hf
      obtain ⟨rfl, rfl⟩ := hf
      exact ⟨r, rfl, rfl, by simp [links, pos]⟩
    · refine ⟨fun hn => ?_, fun i f hf => ?_⟩
      · simp only [fpos, q, if_false, Option.map_eq_none_iff] at hn
        simp [links, pos, q] at h1 ⊢
        exact h1 hn
      · simp only [fpos, q, if_false, Option.map_eq_some_iff] at hf
        obtain ⟨⟨j, f'⟩, hj, he⟩ := hf
        simp only [Prod.mk.injEq] at he
        obtain ⟨rfl, rfl⟩ := he
        obtain ⟨r', g1, g2, g3⟩ := h2 j f' hj
        exact ⟨r', by simpa using g1, by simpa using g2, by simp [links, pos, q] at g3 ⊢; simp [g3]⟩
structure Env (w : World) (F : Nat → Prop) (E : Nat → Addr) : Prop where
  errs : ErrsAt w E
  nv : ∀ i, i < 9 → ¬ F (errVar i)
  nb : ∀ i, i < 9 → ¬ F (E i).block
theorem Env.step {w w' : World} {F F' : Nat → Prop} {E : Nat → Addr} (h : Env w F E) (s : Stp w F w' F') : Env w' F' E := {
  errs := h.errs.keep s.keep h.nv h.nb
  nv := fun i hi hf => (s.grow _ hf).elim (h.nv i hi) (fun hl => by have := h.errs.old i hi; omega)
  nb := fun i hi hf => (s.grow _ hf).elim (h.nb i hi) (fun hl => by obtain ⟨cs, t, hb⟩ := h.errs.blk i hi; have := lt_of_heap hb; omega) }
theorem Env.nil {w w' : World} {F : Nat → Prop} {E : Nat → Addr} (h : Env w F E) (k : Keep Nil w w') : Env w' F E := h.step (Stp.of_nil k F)
def DSt.ferr (D : DSt) (s : ByteArray) : Option Nat := if okName s = false then some 1 else if fpos s D.files = none then some 2 else none
def DSt.perr (D : DSt) (s : ByteArray) : Option Nat := if D.on = false then some 0 else D.ferr s
theorem zero_file (w : World) : (zeroValue 158).run Tryz.prog w = .ok (.pointer none) w := Tryz.zeroValue158 w
set_option maxHeartbeats 400000 in
theorem find_bad (d : Nat) (D : DSt) (R : DRep) (F : Nat → Prop) (E : Nat → Addr) (s : ByteArray) (k : Nat) (w : World) (h : DiskAt w F d D R) (he : Env w F E) (hk : D.ferr s = some k) :
    Calls Tryz.prog 250 #[.pointer (some ⟨d, 0, none⟩), .string s] w fun e w' => e = .returned (.tuple #[.pointer none, .iface 297 (.agg #[.string s, .iface 421 (.pointer (some (E k)))])]) ∧ Drawn w w' := by
  unfold DSt.ferr at hk
  cases hn : okName s
  · have hk1 : k = 1 := by rw [if_pos hn] at hk; injection hk with hk; exact hk.symm
    subst hk1
    have v1 := he.errs.var 1 (by decide)
    simp only [errVar, List.getD_cons_zero, List.getD_cons_succ] at v1
    have HN := Hid.intro_ hn
    clear hk hn
    go_enter Tryz.func250, Tryz.ntmps250
    go_wp2_with (go_at_call 121; refine (named_any s _).mono ?_; rw [HN.out]; rintro e w' ⟨rfl, rfl⟩)
    go_quiet (fail)
    go_wp2
    go_ret2
    exact ⟨rfl, ⟨⟨_, rfl⟩⟩⟩
  · rw [if_neg (by simp [hn])] at hk
    have hf : fpos s D.files = none := by
      by_cases q : fpos s D.files = none
      · exact q
      · rw [if_neg q] at hk; cases hk
    have hk2 : k = 2 := by rw [if_pos hf] at hk; injection hk with hk; exact hk.symm
    subst hk2
    have v2 := he.errs.var 2 (by decide)
    simp only [errVar, List.getD_cons_zero, List.getD_cons_succ] at v2
    have hl := h.map.look Tryz.underlying151 Tryz.underlying9 (zero_file w) s
    rw [(pos_links s D.files R.reps h.len).1 hf] at hl
    simp only [Option.map_none, Option.getD_none] at hl
    have c3 : w.cell? ⟨d, 3, none⟩ = some (.map (some R.mb)) := h.blk.at_ 3
    have HN := Hid.intro_ hn
    clear hk hn hf
    go_enter Tryz.func250, Tryz.ntmps250
    go_wp2_with (go_at_call 121; refine (named_any s _).mono ?_; rw [HN.out]; rintro e w' ⟨rfl, rfl⟩)
    go_quiet (fail)
    go_wp2
    go_ret2
    exact ⟨rfl, ⟨⟨_, rfl⟩⟩⟩
set_option maxHeartbeats 400000 in
theorem find_ok (d : Nat) (D : DSt) (R : DRep) (F : Nat → Prop) (s : ByteArray) (i : Nat) (f : AFile) (r : Nat × Value) (w : World) (h : DiskAt w F d D R) (hn : okName s = true) (hf : fpos s D.files = some (i, f)) (hr : R.reps[i]? = some r) :
    Calls Tryz.prog 250 #[.pointer (some ⟨d, 0, none⟩), .string s] w fun e w' => e = .returned (.tuple #[.pointer (some ⟨r.1, 0, none⟩), .nilIface]) ∧ w' = w := by
  have hl := h.map.look Tryz.underlying151 Tryz.underlying9 (zero_file w) s
  obtain ⟨r', hr', _, hp⟩ := (pos_links s D.files R.reps h.len).2 i f hf
  rw [hr] at hr'
  injection hr' with hr'
  subst hr'
  rw [hp] at hl
  simp only [Option.map_some, Option.getD_some] at hl
  have c3 : w.cell? ⟨d, 3, none⟩ = some (.map (some R.mb)) := h.blk.at_ 3
  have HN := Hid.intro_ hn
  clear hn hf hr hp
  go_enter Tryz.func250, Tryz.ntmps250
  go_wp2_with (go_at_call 121; refine (named_any s _).mono ?_; rw [HN.out]; rintro e w' ⟨rfl, rfl⟩)
  go_ret2
  exact ⟨rfl, rfl⟩
theorem perr_on {D : DSt} {s : ByteArray} (h : D.perr s = none) : D.on = true ∧ okName s = true ∧ ∃ i f, fpos s D.files = some (i, f) := by
  unfold DSt.perr DSt.ferr at h
  cases ho : D.on <;> simp [ho] at h
  cases hn : okName s <;> simp [hn] at h
  refine ⟨rfl, rfl, ?_⟩
  cases hf : fpos s D.files with
  | none => simp [hf] at h
  | some q => exact ⟨q.1, q.2, rfl⟩
set_option maxHeartbeats 400000 in
theorem powered_bad (d : Nat) (D : DSt) (R : DRep) (F : Nat → Prop) (E : Nat → Addr) (s : ByteArray) (k : Nat) (w : World) (h : DiskAt w F d D R) (he : Env w F E) (hk : D.perr s = some k) :
    Calls Tryz.prog 198 #[.pointer (some ⟨d, 0, none⟩), .string s] w fun e w' => e = .returned (.tuple #[.pointer none, .iface 297 (.agg #[.string s, .iface 421 (.pointer (some (E k)))])]) ∧ Drawn w w' := by
  have c0 : w.cell? ⟨d, 0, none⟩ = some (.bool D.on) := h.blk.at_ 0
  unfold DSt.perr at hk
  cases ho : D.on
  · rw [ho] at c0
    have hk1 : k = 0 := by rw [if_pos ho] at hk; injection hk with hk; exact hk.symm
    subst hk1
    have v0 := he.errs.var 0 (by decide)
    simp only [errVar, List.getD_cons_zero] at v0
    clear hk ho
    go_enter Tryz.func198, Tryz.ntmps198
    go_wp2
    go_quiet (fail)
    go_wp2
    go_ret2
    exact ⟨rfl, ⟨⟨_, rfl⟩⟩⟩
  · rw [ho] at c0
    rw [if_neg (by simp [ho])] at hk
    have HK := Hid.intro_ hk
    clear hk ho
    go_enter Tryz.func198, Tryz.ntmps198
    go_wp2_with (go_at_call 250; refine (find_bad d D R F E s k _ h he HK.out).mono ?_; rintro e w' ⟨rfl, hd⟩)
    go_ret2
    exact ⟨rfl, hd⟩
set_option maxHeartbeats 400000 in
theorem powered_ok (d : Nat) (D : DSt) (R : DRep) (F : Nat → Prop) (s : ByteArray) (i : Nat) (f : AFile) (r : Nat × Value) (w : World) (h : DiskAt w F d D R) (ho : D.on = true) (hn : okName s = true) (hf : fpos s D.files = some (i, f)) (hr : R.reps[i]? = some r) :
    Calls Tryz.prog 198 #[.pointer (some ⟨d, 0, none⟩), .string s] w fun e w' => e = .returned (.tuple #[.pointer (some ⟨r.1, 0, none⟩), .nilIface]) ∧ w' = w := by
  have c0 : w.cell? ⟨d, 0, none⟩ = some (.bool D.on) := h.blk.at_ 0
  rw [ho] at c0
  have HN := Hid.intro_ hn
  have HF := Hid.intro_ hf
  have HR := Hid.intro_ hr
  clear hn hf hr ho
  go_enter Tryz.func198, Tryz.ntmps198
  go_wp2_with (go_at_call 250; refine (find_ok d D R F s i f r _ h HN.out HF.out HR.out).mono ?_; rintro e w' ⟨rfl, rfl⟩)
  go_ret2
  exact ⟨rfl, rfl⟩
end Go.Proofs.YtadipinnbehhhaaGreatDoor
namespace Go.Proofs.YtadipinnbehhhaaGreatDoor
open Go.RowKit

def Tr.hits (t : Tr) (k : Int) : Bool := decide (t.at_ = k) && (decide (t.kind = 1) || decide (t.kind = 2))
def DSt.hit (D : DSt) : Option Tr := D.trs.find? fun t => t.hits D.calls
def DSt.numbered (D : DSt) : DSt := { D with calls := wrap64 (D.calls + 1) }
def hitVal : Option Tr → Value
  | some t => .tuple #[.agg #[.int .i64 t.at_, .int .i64 t.kind, .int .i64 t.bytes], .bool true]
  | none => .tuple #[.agg #[.int .i64 0, .int .i64 0, .int .i64 0], .bool false]
theorem trCells_get : ∀ (l : List Tr) (k : Nat) (t : Tr), l[k]? = some t → (trCells l)[k * 3]? = some (.int .i64 t.at_) ∧ (trCells l)[k * 3 + 1]? = some (.int .i64 t.kind) ∧ (trCells l)[k * 3 + 2]? = some (.int .i64 t.bytes)
  | [], _, _, h => by simp at h
  | a :: l, 0, t, h => by
    simp only [List.getElem?_cons_zero, Option.some.injEq] at h
    subst h
    exact ⟨rfl, rfl, rfl⟩
  | a :: l, k + 1, t, h => by
    have ih := trCells_get l k t (by simpa using h)
    have e : trCells (a :: l) = .int .i64 a.at_ :: .int .i64 a.kind :: .int .i64 a.bytes :: trCells l := rfl
    rw [e]
    refine ⟨?_, ?_, ?_⟩
    · rw [show (k + 1) * 3 = k * 3 + 1 + 1 + 1 from by omega]; simpa using ih.1
    · rw [show (k + 1) * 3 + 1 = k * 3 + 1 + 1 + 1 + 1 from by omega]; simpa using ih.2.1
    · rw [show (k + 1) * 3 + 2 = k * 3 + 2 + 1 + 1 + 1 from by omega]; simpa using ih.2.2
theorem hit_none {l : List Tr} {c : Int} (h : ∀ (j : Nat) (t : Tr), l[j]? = some t → t.hits c = false) : l.find? (fun t => t.hits c) = none := by
  rw [List.find?_eq_none]
  intro t ht
  obtain ⟨j, hj⟩ := List.mem_iff_getElem?.1 ht
  simp [h j t hj]
theorem hit_some : ∀ {l : List Tr} {c : Int} {k : Nat} {t : Tr}, (∀ (j : Nat) (u : Tr), j < k → l[j]? = some u → u.hits c = false) → l[k]? = some t → t.hits c = true → l.find? (fun t => t.hits c) = some t
  | [], _, _, _, _, h, _ => by simp at h
  | a :: l, c, 0, t, _, h, ht => by
    simp only [List.getElem?_cons_zero, Option.some.injEq] at h
    subst h
    simp [ht]
  | a :: l, c, k + 1, t, hj, h, ht => by
    have h0 := hj 0 a (by omega) rfl
    simp only [List.find?_cons, h0]
    exact hit_some (k := k) (fun j u hlt hu => hj (j + 1) u (by omega) (by simpa using hu)) (by simpa using h) ht
set_option maxRecDepth 100000 in
set_option maxHeartbeats 1000000 in
theorem number_any (d : Nat) (D : DSt) (R : DRep) (F : Nat → Prop) (w : World) (h : DiskAt w F d D R) :
    Calls Tryz.prog 226 #[.pointer (some ⟨d, 0, none⟩)] w fun e w' => e = .returned (hitVal D.hit) ∧ DiskAt w' F d D.numbered R ∧ Keep (fun b => b = d) w w' := by
  have c5 : w.cell? ⟨d, 5, none⟩ = some (.int .i64 D.calls) := h.blk.at_ 5
  have f5 : w.frozen? ⟨d, 5, none⟩ = false := h.blk.fr 5
  have c4 : w.cell? ⟨d, 4, none⟩ = some (.slice (R.tb.map fun b => ⟨b, 0, none⟩) D.trs.length R.tc) := h.blk.at_ 4
  have hdl := h.blk.lt
  go_enter Tryz.func226, Tryz.ntmps226
  have hW : Keep (fun b => b = d) w ((w.setCell ⟨d, 5, none⟩ (.int .i64 (wrap64 (D.calls + 1)))).alloc (.cells #[.int .i64 0, .int .i64 0, .int .i64 0] 290)) := ((Keep.refl (fun b => b = d) w).setCell (p := ⟨d, 5, none⟩) (fun _ => rfl) _).alloc _
  have hres : Blk ((w.setCell ⟨d, 5, none⟩ (.int .i64 (wrap64 (D.calls + 1)))).alloc (.cells #[.int .i64 0, .int .i64 0, .int .i64 0] 290)) w.heap.size 290 #[.int .i64 0, .int .i64 0, .int .i64 0] := Blk.new_at _ _ _ (by simp [World.setCell])
  have hD1 : DiskAt ((w.setCell ⟨d, 5, none⟩ (.int .i64 (wrap64 (D.calls + 1)))).alloc (.cells #[.int .i64 0, .int .i64 0, .int .i64 0] 290)) F d D.numbered R := by
    refine DiskAt.turn (D' := D.numbered) h hW ?_ rfl rfl ?_
    · exact (Blk.set_ h.blk 5 _).alloc _
    · obtain ⟨a1, a2, a3, a4, a5, a6, a7, a8, a9, a10, a11⟩ := h.ok
      exact ⟨a1, a2, a3, a4, a5, a6, a7, a8, a9, a10, a11⟩
  have hlen : D.trs.length ≤ 9223372036854775807 := Nat.le_trans h.tcl (by have := h.tcm; simpa only [maxLen] using this)
  have htr := Hid.intro_ h.trs
  have hft := Hid.intro_ hD1.ftr
  go_wp2
  go_loopw [26] (fun n wr => ∃ k : Nat, k ≤ D.trs.length ∧ n = .int .i64 k ∧ Keep Nil ((w.setCell ⟨d, 5, none⟩ (.int .i64 (wrap64 (D.calls + 1)))).alloc (.cells #[.int .i64 0, .int .i64 0, .int .i64 0] 290)) wr ∧ Hid (∀ (j : Nat) (t : Tr), j < k → D.trs[j]? = some t → t.hits D.calls = false)) (fun n _ => D.trs.length - (intOf n).toNat)
  case atStart => exact ⟨0, Nat.zero_le _, rfl, Keep.refl _ _, fun j t hj => by omega⟩
  case round =>
    obtain ⟨k, hk, rfl, hkr, hno⟩ := hrel
    have hr := hres.keep hkr (fun h => h)
    have r0 : wr.cell? ⟨w.heap.size, 0, none⟩ = some (.int .i64 0) := hr.at_ 0
    have r1 : wr.cell? ⟨w.heap.size, 1, none⟩ = some (.int .i64 0) := hr.at_ 1
    have r2 : wr.cell? ⟨w.heap.size, 2, none⟩ = some (.int .i64 0) := hr.at_ 2
    have q0 : wr.frozen? ⟨w.heap.size, 0, none⟩ = false := hr.fr 0
    have q1 : wr.frozen? ⟨w.heap.size, 1, none⟩ = false := hr.fr 1
    have q2 : wr.frozen? ⟨w.heap.size, 2, none⟩ = false := hr.fr 2
    have hlt2 := hr.lt
    by_cases hlt : k < D.trs.length
    · obtain ⟨t, ht⟩ : ∃ t, D.trs[k]? = some t := ⟨_, List.getElem?_eq_getElem hlt⟩
      obtain ⟨g0, g1, g2⟩ := trCells_get D.trs k t ht
      obtain ⟨b, hb, x0⟩ := htr.out _ _ g0
      obtain ⟨b1, hb1, x1⟩ := htr.out _ _ g1
      obtain ⟨b2, hb2, x2⟩ := htr.out _ _ g2
      have hbb1 : b1 = b := by rw [hb] at hb1; injection hb1 with hb1; exact hb1.symm
      have hbb2 : b2 = b := by rw [hb] at hb2; injection hb2 with hb2; exact hb2.symm
      rw [hbb1] at x1
      rw [hbb2] at x2
      have hnd := h.trne b hb
      have y0 : wr.cell? ⟨b, k * 3, none⟩ = some (.int .i64 t.at_) := cell_keep (cell_keep x0 hW hnd) hkr (fun h => h)
      have y1 : wr.cell? ⟨b, k * 3 + 1, none⟩ = some (.int .i64 t.kind) := cell_keep (cell_keep x1 hW hnd) hkr (fun h => h)
      have y2 : wr.cell? ⟨b, k * 3 + 2, none⟩ = some (.int .i64 t.bytes) := cell_keep (cell_keep x2 hW hnd) hkr (fun h => h)
      have hTA : Option.map (fun b => (⟨b, 0, none⟩ : Addr)) R.tb = some ⟨b, 0, none⟩ := by rw [hb]; rfl
      clear hb hb1 hb2 hbb1 hbb2 x0 x1 x2 g0 g1 g2 hnd c4
      have HT := Hid.intro_ ht
      clear ht
      cases hh : t.hits D.calls
      · have HH := Hid.intro_ hh
        have hcase : ((t.at_ == D.calls) = false) ∨ ((t.at_ == D.calls) = true ∧ (t.kind == 1) = false ∧ (t.kind == 2) = false) := by
          simp only [Tr.hits, Bool.and_eq_false_iff, Bool.or_eq_false_iff, decide_eq_false_iff_not] at hh
          rcases hh with hh | ⟨ha, hb⟩
          · exact .inl (by simpa using hh)
          · by_cases hq : t.at_ = D.calls
            · exact .inr ⟨by simpa using hq, by simpa using ha, by simpa using hb⟩
            · exact .inl (by simpa using hq)
        clear hh
        rcases hcase with ha | ⟨ha, hb2, hb3⟩
        all_goals
          go_wp2
          go_roundw
          case rel => exact ⟨k + 1, by omega, by go_num, hkr.alloc _, fun j u hj hu => by
            by_cases hjk : j = k
            · subst hjk; have := HT.out; rw [hu] at this; injection this with this; rw [this]; exact HH.out
            · exact hno.out j u (by omega) hu⟩
          case measure => simp [intOf]; omega
      · have HH := Hid.intro_ hh
        have hcase : (t.at_ == D.calls) = true ∧ ((t.kind == 1) = true ∨ ((t.kind == 1) = false ∧ (t.kind == 2) = true)) := by
          simp only [Tr.hits, Bool.and_eq_true, Bool.or_eq_true, decide_eq_true_eq] at hh
          refine ⟨by simpa using hh.1, ?_⟩
          by_cases hq : t.kind = 1
          · exact .inl (by simpa using hq)
          · exact .inr ⟨by simpa using hq, by simpa using hh.2.resolve_left hq⟩
        clear hh
        have hfin : D.hit = some t := hit_some hno.out HT.out HH.out
        have HF := Hid.intro_ hfin
        clear hfin
        obtain ⟨ha, hb1 | ⟨hb1, hb2⟩⟩ := hcase
        all_goals
          go_wp2
          have hB3 := (Blk.set_ (Blk.set_ (Blk.set_ hr 0 (.int .i64 t.at_)) 1 (.int .i64 t.kind)) 2 (.int .i64 t.bytes)).alloc (.cells #[.int .i64 t.at_, .int .i64 t.kind, .int .i64 t.bytes] 290)
          have z0 := hB3.at_ 0
          have z1 := hB3.at_ 1
          have z2 := hB3.at_ 2
          refine bodyPost_ret (v := .tuple #[.agg #[.int .i64 t.at_, .int .i64 t.kind, .int .i64 t.bytes], .bool true]) (by simp [results, Tryz.results226, go_sem, z0, z1, z2]) rfl ⟨by rw [HF.out]; rfl, ?_, ?_⟩
          · exact (hD1.nil hkr).keep ((((Keep.refl (fun b => b = w.heap.size) wr).setCell (p := ⟨w.heap.size, 0, none⟩) (fun _ => rfl) _).setCell (p := ⟨w.heap.size, 1, none⟩) (fun _ => rfl) _).setCell (p := ⟨w.heap.size, 2, none⟩) (fun _ => rfl) _ |>.alloc _) (fun b hb e => by have := h.lt b hb; omega)
          · exact ((((hW.trans hkr (fun _ _ h => h.elim)).setCell (p := ⟨w.heap.size, 0, none⟩) (fun h => absurd h (Nat.lt_irrefl _)) _).setCell (p := ⟨w.heap.size, 1, none⟩) (fun h => absurd h (Nat.lt_irrefl _)) _).setCell (p := ⟨w.heap.size, 2, none⟩) (fun h => absurd h (Nat.lt_irrefl _)) _).alloc _
    · have hfin : D.hit = none := hit_none (fun j t hj => hno.out j t (by have := (List.getElem?_eq_some_iff.1 hj).1; omega) hj)
      have HF := Hid.intro_ hfin
      clear hfin
      go_wp2
      have hB3 := (Blk.set_ (Blk.set_ (Blk.set_ hr 0 (.int .i64 0)) 1 (.int .i64 0)) 2 (.int .i64 0))
      have z0 := hB3.at_ 0
      have z1 := hB3.at_ 1
      have z2 := hB3.at_ 2
      refine bodyPost_ret (v := .tuple #[.agg #[.int .i64 0, .int .i64 0, .int .i64 0], .bool false]) (by simp [results, Tryz.results226, go_sem, z0, z1, z2]) rfl ⟨by rw [HF.out]; rfl, ?_, ?_⟩
      · exact (hD1.nil hkr).keep ((((Keep.refl (fun b => b = w.heap.size) wr).setCell (p := ⟨w.heap.size, 0, none⟩) (fun _ => rfl) _).setCell (p := ⟨w.heap.size, 1, none⟩) (fun _ => rfl) _).setCell (p := ⟨w.heap.size, 2, none⟩) (fun _ => rfl) _) (fun b hb e => by have := h.lt b hb; omega)
      · exact (((hW.trans hkr (fun _ _ h => h.elim)).setCell (p := ⟨w.heap.size, 0, none⟩) (fun h => absurd h (Nat.lt_irrefl _)) _).setCell (p := ⟨w.heap.size, 1, none⟩) (fun h => absurd h (Nat.lt_irrefl _)) _).setCell (p := ⟨w.heap.size, 2, none⟩) (fun h => absurd h (Nat.lt_irrefl _)) _
end Go.Proofs.YtadipinnbehhhaaGreatDoor
