/- NodesReads: a cursor under the law's script, in the room's words. NodesReads: the law's walk through a script of Next and Close. NodesReads: what Up and Down answer. The law's model: add where it refuses early; done. The law's model: add. The law's step: the builder and its model answer the same. The law's step: Drop. NodesBuilds: the law's walk. NodesReads: the law's files: the five ways. -/
import Derived.Deep.CutBlock
import Derived.Test.YtadipinnbehhhaaGreatDoorReadsRowAQ
import Derived.Test.YtadipinnbehhhaaGreatDoorReadsRowAJ
namespace Go.Proofs.YtadipinnbehhhaaGreatDoor
open Go.RowKit

/-- What holds ahead of a script. -/
structure GoP (c : Cx) (fs : List (ByteArray × AFile)) (name : ByteArray) (L : List R4) (s : RSt) : Prop where
  tape : TapeOn c fs name 2 L
  calm : Calm s.D c.block fs
  hand : s.S.hand = c.K
  parts : s.S.parts = 0
  opn : s.S.closed = false
/-- A cursor under way: k nodes are taken; o: it is open. -/
structure GoOn (c : Cx) (name : ByteArray) (L : List R4) (up : Bool) (v r m : Nat) (cb b : Nat) (G0 : Nat → Prop) (s0 : RSt) (l : List N3) (bad : Bool) (w : World) (o : Bool) (k : Nat) (wr : World) : Prop where mk ::
  out : ∃ G s q j, Stp w G0 wr G ∧ ((o = true ∧ Went j 0 s0 s ∧ LiveC c name L up v r m cb b wr G s q (l.drop k) bad) ∨ (o = false ∧ Went j (-(c.K : Int)) s0 s ∧ ShutC c cb b wr G s))
  le : k ≤ l.length
section
variable {c : Cx} {fs : List (ByteArray × AFile)} {name : ByteArray} {L : List R4} {up bad o : Bool} {v r m cb b q k : Nat} {G0 G : Nat → Prop} {s0 s : RSt} {l : List N3} {w wr w' : World} {n : N3}

theorem LiveC.nil (h : LiveC c name L up v r m cb b w G s q l bad) (k : Keep Nil w w') : LiveC c name L up v r m cb b w' G s q l bad := by
  obtain ⟨x, y, rem, h1, h2⟩ := h.out
  exact ⟨x, y, rem, h1.nil k, h2⟩
theorem LiveC.lt (h : LiveC c name L up v r m cb b w G s q l bad) (z : Nat) (hz : G z) : z < w.heap.size := by
  obtain ⟨x, y, rem, h1, h2⟩ := h.out
  exact h1.lt z hz
theorem ShutC.nil (h : ShutC c cb b w G s) (k : Keep Nil w w') : ShutC c cb b w' G s := by
  obtain ⟨x, y, h1, h2⟩ := h.out
  exact ⟨x, y, h1.nil k, h2⟩
theorem LiveC.rm (h : LiveC c name L up v r m cb b w G s q l bad) : ∃ G1, RmAt c w G1 s ∧ ∀ w', RmTo c G1 s w w' → ∃ G', LiveC c name L up v r m cb b w' G' s q l bad ∧ Stp w G w' G' := by
  obtain ⟨x, y, rem, h1, h2⟩ := h.out
  obtain ⟨G1, hr, _, via⟩ := h1.rm
  refine ⟨G1, hr, fun w' t => ?_⟩
  obtain ⟨G', h3, s3⟩ := via _ _ t
  exact ⟨G', ⟨x, y, rem, h3, h2⟩, s3⟩
theorem ShutC.rm (h : ShutC c cb b w G s) : ∃ G1, RmAt c w G1 s ∧ (∀ z, G1 z → G z) ∧ ∀ w', RmTo c G1 s w w' → ∃ G', ShutC c cb b w' G' s ∧ Stp w G w' G' := by
  obtain ⟨x, y, h1, h2⟩ := h.out
  obtain ⟨G1, hr, hs, via⟩ := h1.rm
  refine ⟨G1, hr, hs, fun w' t => ?_⟩
  obtain ⟨G', h3, s3⟩ := via _ _ t
  exact ⟨G', ⟨x, y, h3, h2⟩, s3⟩
theorem GoOn.start (h : LiveC c name L up v r m cb b w G0 s0 q l bad) : GoOn c name L up v r m cb b G0 s0 l bad w true 0 w := ⟨⟨G0, s0, q, 0, Stp.refl _ _, .inl ⟨rfl, Went.refl _, h⟩⟩, Nat.zero_le _⟩
theorem GoOn.nil (h : GoOn c name L up v r m cb b G0 s0 l bad w o k wr) (kp : Keep Nil wr w') : GoOn c name L up v r m cb b G0 s0 l bad w o k w' := by
  obtain ⟨G, s, q, j, h1, h2⟩ := h.out
  exact ⟨⟨G, s, q, j, h1.then_nil kp, h2.imp (fun ⟨a, b, d⟩ => ⟨a, b, d.nil kp⟩) (fun ⟨a, b, d⟩ => ⟨a, b, d.nil kp⟩)⟩, h.le⟩
theorem GoOn.keep (h : GoOn c name L up v r m cb b G0 s0 l bad w o k wr) : Keep G0 w wr := by
  obtain ⟨G, s, q, j, h1, h2⟩ := h.out
  exact h1.keep
theorem GoOn.rd {A : Option Addr} {xs : List Value} (h : GoOn c name L up v r m cb b G0 s0 l bad w o k wr) (hr : Rd w A xs) (hn : ∀ a, A = some a → ¬ G0 a.block) : Rd wr A xs := hr.keep h.keep (fun a e _ => hn a e)
theorem GoOn.used_t (P : GoP c fs name L s0) (h : GoOn c name L up v r m cb b G0 s0 l bad w true k wr) :
    Calls Tryz.prog 64 #[.pointer (some ⟨c.p, 0, none⟩)] wr fun e w' => e = .returned (.int .i64 c.K) ∧ GoOn c name L up v r m cb b G0 s0 l bad w true k w' := by
  obtain ⟨G, s, q, j, h1, h2⟩ := h.out
  rcases h2 with ⟨_, hw, hl⟩ | ⟨e, _⟩
  · obtain ⟨G1, hr, via⟩ := hl.rm
    refine (used_rm hr).mono fun e w1 ⟨he, t⟩ => ⟨?_, ?_⟩
    · have e1 := hw.hand
      have e2 := hw.parts
      rw [he, show s.S.hand + s.S.parts = (c.K : Int) by rw [e1, e2, P.hand, P.parts]; omega]
    · obtain ⟨G', h3, s3⟩ := via _ t
      exact ⟨⟨G', s, q, j, h1.trans s3, .inl ⟨rfl, hw, h3⟩⟩, h.le⟩
  · cases e
theorem GoOn.used_f (P : GoP c fs name L s0) (h : GoOn c name L up v r m cb b G0 s0 l bad w false k wr) :
    Calls Tryz.prog 64 #[.pointer (some ⟨c.p, 0, none⟩)] wr fun e w' => e = .returned (.int .i64 0) ∧ GoOn c name L up v r m cb b G0 s0 l bad w false k w' := by
  obtain ⟨G, s, q, j, h1, h2⟩ := h.out
  rcases h2 with ⟨e, _⟩ | ⟨_, hw, hl⟩
  · cases e
  · obtain ⟨G1, hr, _, via⟩ := hl.rm
    refine (used_rm hr).mono fun e w1 ⟨he, t⟩ => ⟨?_, ?_⟩
    · have e1 := hw.hand
      have e2 := hw.parts
      rw [he, show s.S.hand + s.S.parts = 0 by rw [e1, e2, P.hand, P.parts]; omega]
    · obtain ⟨G', h3, s3⟩ := via _ t
      exact ⟨⟨G', s, q, j, h1.trans s3, .inr ⟨rfl, hw, h3⟩⟩, h.le⟩
theorem GoOn.room_k (h : GoOn c name L up v r m cb b G0 s0 l bad w true k wr) : Calls Tryz.prog 61 #[.pointer (some ⟨c.k, 0, none⟩)] wr fun e w' => e = .returned (.int .i64 c.K) ∧ w' = wr := by
  obtain ⟨G, s, q, j, h1, h2⟩ := h.out
  rcases h2 with ⟨_, hw, hl⟩ | ⟨e, _⟩
  · obtain ⟨G1, hr, via⟩ := hl.rm
    exact Go.Proofs.YtadipinnbehhhaaGreatDoor.room_k hr
  · cases e
theorem GoOn.close_t (P : GoP c fs name L s0) (h : GoOn c name L up v r m cb b G0 s0 l bad w true k wr) :
    Calls Tryz.prog 84 #[.pointer (some ⟨cb, 0, none⟩)] wr fun e w' => e = .returned (.int .i64 0) ∧ GoOn c name L up v r m cb b G0 s0 l bad w false k w' := by
  obtain ⟨G, s, q, j, h1, h2⟩ := h.out
  rcases h2 with ⟨_, hw, hl⟩ | ⟨e, _⟩
  · refine (hl.close (by rw [hw.closed]; exact P.opn) (by rw [hw.hand, P.hand]; omega)).mono fun e w1 ⟨he, s', G', hw2, hs, st⟩ => ⟨he, ?_⟩
    exact ⟨⟨G', s', 0, j, h1.trans st, .inr ⟨rfl, (hw.trans hw2).of_eq (by omega) (by omega), hs⟩⟩, h.le⟩
  · cases e
theorem GoOn.close_f (h : GoOn c name L up v r m cb b G0 s0 l bad w false k wr) :
    Calls Tryz.prog 84 #[.pointer (some ⟨cb, 0, none⟩)] wr fun e w' => e = .returned (.int .i64 6) ∧ w' = wr := by
  obtain ⟨G, s, q, j, h1, h2⟩ := h.out
  rcases h2 with ⟨e, _⟩ | ⟨_, hw, hl⟩
  · cases e
  · exact hl.close
theorem GoOn.next_f (h : GoOn c name L up v r m cb b G0 s0 l bad w false k wr) :
    Calls Tryz.prog 85 #[.pointer (some ⟨cb, 0, none⟩)] wr fun e w' => e = .returned (.tuple #[ndV 0 0 0, .bool false, .int .i64 6]) ∧ GoOn c name L up v r m cb b G0 s0 l bad w false k w' := by
  obtain ⟨G, s, q, j, h1, h2⟩ := h.out
  rcases h2 with ⟨e, _⟩ | ⟨_, hw, hl⟩
  · cases e
  · exact hl.next.mono fun e w1 ⟨he, kp⟩ => ⟨he, h.nil kp⟩
theorem GoOn.next_t (P : GoP c fs name L s0) (h : GoOn c name L up v r m cb b G0 s0 l bad w true k wr) (hn : l[k]? = some n) :
    Calls Tryz.prog 85 #[.pointer (some ⟨cb, 0, none⟩)] wr fun e w' => e = .returned (.tuple #[ndV n.self n.low n.high, .bool true, .int .i64 0]) ∧ GoOn c name L up v r m cb b G0 s0 l bad w true (k + 1) w' := by
  obtain ⟨G, s, q, j, h1, h2⟩ := h.out
  have hlt : k < l.length := (List.getElem?_eq_some_iff.1 hn).1
  have hd : l.drop k = n :: l.drop (k + 1) := by
    obtain ⟨h, e⟩ := List.getElem?_eq_some_iff.1 hn
    rw [List.drop_eq_getElem_cons h, e]
  rcases h2 with ⟨_, hw, hl⟩ | ⟨e, _⟩
  · refine (hl.next P.tape (hw.calm P.calm)).mono fun e w1 ⟨he, j1, q1, G1, hj, hq, hl1, st⟩ => ?_
    rw [hd] at he hl1
    refine ⟨he, ⟨⟨G1, _, q1, j1 + j, h1.trans st, .inl ⟨rfl, ?_, hl1⟩⟩, hlt⟩⟩
    exact ⟨by show s.D.readsN j1 = _; rw [hw.D, DSt.readsN_add], hw.next, hw.limit, hw.hand, hw.parts, hw.opn, hw.closed⟩
  · cases e
theorem GoOn.next_e (P : GoP c fs name L s0) (h : GoOn c name L up v r m cb b G0 s0 l bad w true k wr) (hn : ¬ k < l.length) :
    Calls Tryz.prog 85 #[.pointer (some ⟨cb, 0, none⟩)] wr fun e w' => e = .returned (.tuple #[ndV 0 0 0, .bool false, .int .i64 (if bad = true then 72 else 0)]) ∧ GoOn c name L up v r m cb b G0 s0 l bad w true k w' := by
  obtain ⟨G, s, q, j, h1, h2⟩ := h.out
  have hd : l.drop k = [] := List.drop_eq_nil_of_le (by omega)
  rcases h2 with ⟨_, hw, hl⟩ | ⟨e, _⟩
  · refine (hl.next P.tape (hw.calm P.calm)).mono fun e w1 ⟨he, j1, q1, G1, hj, hq, hl1, st⟩ => ?_
    rw [hd] at he hl1
    refine ⟨he, ⟨⟨G1, _, q1, j1 + j, h1.trans st, .inl ⟨rfl, ?_, by rw [hd]; exact hl1⟩⟩, h.le⟩⟩
    exact ⟨by show s.D.readsN j1 = _; rw [hw.D, DSt.readsN_add], hw.next, hw.limit, hw.hand, hw.parts, hw.opn, hw.closed⟩
  · cases e
theorem GoOn.ends (h : GoOn c name L up v r m cb b G0 s0 l bad w false k wr) : ∃ j s', Went j (-(c.K : Int)) s0 s' ∧ RmTo c G0 s' w wr := by
  obtain ⟨G, s, q, j, h1, h2⟩ := h.out
  rcases h2 with ⟨e, _⟩ | ⟨_, hw, hl⟩
  · cases e
  · obtain ⟨G1, hr, hs, _⟩ := hl.rm
    exact ⟨j, s, hw, G1, hr, h1.less hs⟩
end

set_option maxRecDepth 100000 in
theorem neq_node (a b c : Int) (w : World) : (binOp .neq 46 (.agg #[.int .u64 a, .int .u64 b, .int .u64 c]) (.agg #[.int .u64 a, .int .u64 b, .int .u64 c])).run Tryz.prog w = .ok (.bool false) w := by
  rw [run_neq_struct]
  have e : (Op.equalIn 10000 46 (.agg #[.int .u64 a, .int .u64 b, .int .u64 c]) (.agg #[.int .u64 a, .int .u64 b, .int .u64 c])).run Tryz.prog w = .ok true w := by
    go_simp
  rw [e]
  rfl
end Go.Proofs.YtadipinnbehhhaaGreatDoor
namespace Go.Proofs.YtadipinnbehhhaaGreatDoor
open Go.RowKit

theorem nd_at {w : World} {A : Option Addr} {l : List N3} (h : Rd w A (ndCells l)) {k : Nat} {n : N3} (hn : l[k]? = some n) (hs : ∀ a, A = some a → a.spot = none) :
    ∃ g o, A = some ⟨g, o, none⟩ ∧ w.cell? ⟨g, o + k * 3, none⟩ = some (.int .u64 n.self) ∧ w.cell? ⟨g, o + k * 3 + 1, none⟩ = some (.int .u64 n.low) ∧ w.cell? ⟨g, o + k * 3 + 2, none⟩ = some (.int .u64 n.high) := by
  obtain ⟨h0, h1, h2⟩ := ndCells_at l k n hn
  obtain ⟨⟨g, o, sp⟩, rfl, c0⟩ := h _ _ h0
  obtain rfl : sp = none := hs _ rfl
  obtain ⟨_, e, c1⟩ := h _ _ h1; injection e with e; subst e
  obtain ⟨_, e, c2⟩ := h _ _ h2; injection e with e; subst e
  rw [add_at] at c0 c1 c2
  exact ⟨g, o, rfl, c0, by rw [← Nat.add_assoc] at c1; exact c1, by rw [← Nat.add_assoc] at c2; exact c2⟩
theorem in_at {w : World} {A : Option Addr} {si : List Int} (h : Rd w A (si.map fun x => .int .i64 x)) {k : Nat} {x : Int} (hx : si[k]? = some x) (hs : ∀ a, A = some a → a.spot = none) :
    ∃ g o, A = some ⟨g, o, none⟩ ∧ w.cell? ⟨g, o + k, none⟩ = some (.int .i64 x) := by
  obtain ⟨⟨g, o, sp⟩, rfl, c0⟩ := h k _ (by rw [List.getElem?_map, hx]; rfl)
  obtain rfl : sp = none := hs _ rfl
  rw [add_at] at c0
  exact ⟨g, o, rfl, c0⟩
/-- A node in a block of its own. -/
theorem node_new (w : World) (u v x : Value) (X : World) (hX : X = w.alloc (.cells #[u, v, x] 46)) :
    X.cell? ⟨w.heap.size, 0, none⟩ = some u ∧ X.cell? ⟨w.heap.size, 1, none⟩ = some v ∧ X.cell? ⟨w.heap.size, 2, none⟩ = some x ∧ Keep Nil w X := by
  subst hX
  have hb := Blk.new w 46 #[u, v, x]
  exact ⟨hb.at_ 0, hb.at_ 1, hb.at_ 2, (Keep.refl Nil w).alloc _⟩
set_option maxRecDepth 100000 in
set_option maxHeartbeats 4000000 in
theorem goes_any (c : Cx) (fs : List (ByteArray × AFile)) (name : ByteArray) (L : List R4) (up bad : Bool) (v r m cb b q : Nat) (G0 : Nat → Prop) (s0 : RSt) (l : List N3) (si : List Int) (w : World) (vs : Value) (An Ai : Option Addr) (cn ci : Nat)
    (P : GoP c fs name L s0) (h : LiveC c name L up v r m cb b w G0 s0 q l bad) (hl : l.length ≤ 1099511627776) (hsl : si.length ≤ 9223372036854775807)
    (hn : Rd w An (ndCells l)) (hi : Rd w Ai (si.map fun x => .int .i64 x)) (hns : ∀ a, An = some a → a.spot = none ∧ ¬ G0 a.block) (his : si ≠ [] → ∀ a, Ai = some a → a.spot = none ∧ ¬ G0 a.block) :
    Calls Tryz.prog 30 #[.agg #[.pointer (some ⟨c.d, 0, none⟩), .pointer (some ⟨c.p, 0, none⟩), .pointer (some ⟨c.k, 0, none⟩), .int .i64 c.block, vs], .pointer (some ⟨cb, 0, none⟩), .slice An l.length cn, .bool bad, .slice Ai si.length ci] w
      fun e w' => e = .returned (.bool true) ∧ ∃ j s', Went j (-(c.K : Int)) s0 s' ∧ RmTo c G0 s' w w' := by
  obtain ⟨W, hW⟩ : ∃ W, W = w.alloc (.cells #[.pointer (some ⟨c.d, 0, none⟩), .pointer (some ⟨c.p, 0, none⟩), .pointer (some ⟨c.k, 0, none⟩), .int .i64 c.block, vs] 35) := ⟨_, rfl⟩
  have kW : Keep Nil w W := by rw [hW]; exact (Keep.refl Nil w).alloc _
  have bR : Blk W w.heap.size 35 #[.pointer (some ⟨c.d, 0, none⟩), .pointer (some ⟨c.p, 0, none⟩), .pointer (some ⟨c.k, 0, none⟩), .int .i64 c.block, vs] := by rw [hW]; exact Blk.new w _ _
  have hst := GoOn.start (h.nil kW)
  have HR : Hid (∀ o k wr, GoOn c name L up v r m cb b G0 s0 l bad W o k wr → wr.cell? ⟨w.heap.size, 1, none⟩ = some (.pointer (some ⟨c.p, 0, none⟩)) ∧ wr.cell? ⟨w.heap.size, 2, none⟩ = some (.pointer (some ⟨c.k, 0, none⟩))) := Hid.intro_ (fun o k wr hg => by
    have hb := bR.keep hg.keep (fun hf => Nat.lt_irrefl _ (h.lt _ hf))
    exact ⟨hb.at_ 1, hb.at_ 2⟩)
  have HN : Hid (∀ o k wr, GoOn c name L up v r m cb b G0 s0 l bad W o k wr → Rd wr An (ndCells l)) := Hid.intro_ (fun o k wr hg => hg.rd (hn.keep kW (fun _ _ _ h => h)) (fun a e => (hns a e).2))
  have HI : Hid (∀ o k wr, GoOn c name L up v r m cb b G0 s0 l bad W o k wr → Rd wr Ai (si.map fun x => .int .i64 x)) := Hid.intro_ (fun o k wr hg => by
    by_cases hs : si = []
    · rw [hs]; exact Rd.nil _ _
    · exact hg.rd (hi.keep kW (fun _ _ _ h => h)) (fun a e => (his hs a e).2))
  have HP := Hid.intro_ P
  have HEND : Hid (∀ k wr, GoOn c name L up v r m cb b G0 s0 l bad W false k wr → ∃ j s', Went j (-(c.K : Int)) s0 s' ∧ RmTo c G0 s' w wr) := Hid.intro_ (fun k wr hg => by
    obtain ⟨j, s', h1, G1, h2, h3⟩ := hg.ends
    exact ⟨j, s', h1, G1, h2, (Stp.of_nil kW _).trans h3⟩)
  have HST := Hid.intro_ hst
  have HNS := Hid.intro_ (fun a e => (hns a e).1)
  have HIS := Hid.intro_ (fun (hs : si ≠ []) a e => (his hs a e).1)
  have qK : ((c.K : Int) != (c.K : Int)) = false := by simp
  have eqn0 := fun w => neq_node 0 0 0 w
  clear P h hn hi hns his kW bR hst
  go_enter Tryz.func30, Tryz.ntmps30
  go_upto_region 1 with (fail)
  rw [← hW]
  clear hW
  go_wp2_with fail
  go_loopw [11, 12, 13] (fun nn oo ii wr => ∃ (k : Nat) (o : Bool) (i : Nat), nn = .int .i64 k ∧ oo = .bool o ∧ ii = .int .i64 i ∧ i ≤ si.length ∧ Hid (GoOn c name L up v r m cb b G0 s0 l bad W o k wr)) (fun _ _ ii _ => si.length - (intOf ii).toNat)
  case atStart => exact ⟨0, true, 0, rfl, rfl, rfl, Nat.zero_le _, HST⟩
  case round =>
    obtain ⟨k, o, i, rfl, rfl, rfl, hi, HG⟩ := hrel
    by_cases hlt : i < si.length
    · obtain ⟨x, hx⟩ : ∃ x, si[i]? = some x := ⟨_, List.getElem?_eq_getElem hlt⟩
      obtain ⟨g', o', hAi, ci0⟩ := in_at (HI.out _ _ _ HG.out) hx (HIS.out (fun e => by rw [e] at hlt; simp at hlt))
      subst hAi
      have hi0 : 0 ≤ (i : Int) := by omega
      have hi1 : (i : Int) < (si.length : Int) := by omega
      clear hx
      by_cases hx1 : x = 1
      · subst hx1
        cases o
        · go_wp2_with fail
          refine (HG.out.close_f).mono ?_
          rintro e w1 ⟨rfl, hw1⟩
          obtain rfl := hw1.symm
          obtain ⟨r1, r2⟩ := HR.out _ _ _ HG.out
          go_wp2_with fail
          refine (GoOn.used_f HP.out HG.out).mono ?_
          rintro e w2 ⟨rfl, hg2⟩
          have HG2 := Hid.intro_ hg2
          clear hg2
          go_wp2_with fail
          go_roundw
          case rel => exact ⟨k, false, i + 1, rfl, rfl, by go_num, by omega, HG2⟩
          case measure => simp [intOf]; omega
        · go_wp2_with fail
          refine (GoOn.close_t HP.out HG.out).mono ?_
          rintro e w1 ⟨rfl, hg1⟩
          obtain ⟨r1, r2⟩ := HR.out _ _ _ hg1
          have HG1 := Hid.intro_ hg1
          clear hg1
          go_wp2_with fail
          refine (GoOn.used_f HP.out HG1.out).mono ?_
          rintro e w2 ⟨rfl, hg2⟩
          have HG2 := Hid.intro_ hg2
          clear hg2
          go_wp2_with fail
          go_roundw
          case rel => exact ⟨k, false, i + 1, rfl, rfl, by go_num, by omega, HG2⟩
          case measure => simp [intOf]; omega
      · have hxf : (x == 1) = false := by simpa using hx1
        cases o
        · go_wp2_with fail
          refine (HG.out.next_f).mono ?_
          rintro e w1 ⟨rfl, hg1⟩
          have HG1 := Hid.intro_ hg1
          clear hg1
          unfold ndV
          go_upto_region 14 with (fail)
          generalize hX : w1.alloc (.cells #[.int .u64 0, .int .u64 0, .int .u64 0] 46) = X at *
          obtain ⟨y0, y1, y2, kX⟩ := node_new w1 _ _ _ X hX.symm
          have HGX := Hid.intro_ (HG1.out.nil kX)
          clear kX hX
          obtain ⟨r1, r2⟩ := HR.out _ _ _ HGX.out
          go_wp2_with fail
          refine (GoOn.used_f HP.out HGX.out).mono ?_
          rintro e w2 ⟨rfl, hg2⟩
          have HG2 := Hid.intro_ hg2
          clear hg2
          go_wp2_with fail
          go_roundw
          case rel => exact ⟨k, false, i + 1, rfl, rfl, by go_num, by omega, HG2⟩
          case measure => simp [intOf]; omega
        · by_cases hkl : k < l.length
          · obtain ⟨n, hn⟩ : ∃ n, l[k]? = some n := ⟨_, List.getElem?_eq_getElem hkl⟩
            have HNX := Hid.intro_ hn
            have hk0 : 0 ≤ (k : Int) := by omega
            have hk1 : (k : Int) < (l.length : Int) := by omega
            clear hn
            go_wp2_with fail
            refine (GoOn.next_t HP.out HG.out HNX.out).mono ?_
            rintro e w1 ⟨rfl, hg1⟩
            have HG1 := Hid.intro_ hg1
            clear hg1
            unfold ndV
            go_upto_region 14 with (fail)
            generalize hX : w1.alloc (.cells #[.int .u64 n.self, .int .u64 n.low, .int .u64 n.high] 46) = X at *
            obtain ⟨y0, y1, y2, kX⟩ := node_new w1 _ _ _ X hX.symm
            have HGX := Hid.intro_ (HG1.out.nil kX)
            clear kX hX
            obtain ⟨gn, on, hAn, p0, p1, p2⟩ := nd_at (HN.out _ _ _ HGX.out) HNX.out HNS.out
            subst hAn
            have eqn := fun w => neq_node n.self n.low n.high w
            clear ci0
            go_upto_region 18 with (fail)
            go_quiet (fail)
            obtain ⟨wa, ka, hwa⟩ : ∃ wa, Keep Nil X wa ∧ wa = X.drewN nq := ⟨_, (Keep.refl Nil X).drewN _, rfl⟩
            rw [← hwa]
            have HGA := Hid.intro_ (HGX.out.nil ka)
            clear hwa ka y0 y1 y2 p0 p1 p2
            obtain ⟨r1, r2⟩ := HR.out _ _ _ HGA.out
            go_wp2_with fail
            refine (GoOn.room_k HGA.out).mono ?_
            rintro e w1' ⟨rfl, hw1⟩
            obtain rfl := hw1.symm
            go_wp2_with fail
            refine (GoOn.used_t HP.out HGA.out).mono ?_
            rintro e w2 ⟨rfl, hg2⟩
            have HG2 := Hid.intro_ hg2
            clear hg2
            go_wp2_with fail
            go_roundw
            case rel => exact ⟨k + 1, true, i + 1, by go_num, rfl, by go_num, by omega, HG2⟩
            case measure => simp [intOf]; omega
          · obtain rfl : k = l.length := by have := HG.out.le; omega
            go_wp2_with fail
            refine (GoOn.next_e HP.out HG.out (Nat.lt_irrefl _)).mono ?_
            rintro e w1 ⟨rfl, hg1⟩
            have HG1 := Hid.intro_ hg1
            clear hg1
            unfold ndV
            go_upto_region 14 with (fail)
            generalize hX : w1.alloc (.cells #[.int .u64 0, .int .u64 0, .int .u64 0] 46) = X at *
            obtain ⟨y0, y1, y2, kX⟩ := node_new w1 _ _ _ X hX.symm
            have HGX := Hid.intro_ (HG1.out.nil kX)
            clear kX hX
            obtain ⟨r1, r2⟩ := HR.out _ _ _ HGX.out
            cases bad
            all_goals
              go_wp2_with fail
              refine (GoOn.room_k HGX.out).mono ?_
              rintro e w1' ⟨rfl, hw1⟩
              obtain rfl := hw1.symm
              go_wp2_with fail
              refine (GoOn.used_t HP.out HGX.out).mono ?_
              rintro e w2 ⟨rfl, hg2⟩
              have HG2 := Hid.intro_ hg2
              clear hg2
              go_wp2_with fail
              go_roundw
              case rel => exact ⟨l.length, true, i + 1, rfl, rfl, by go_num, by omega, HG2⟩
              case measure => simp [intOf]; omega
    · obtain rfl : i = si.length := by omega
      cases o
      · obtain ⟨r1, r2⟩ := HR.out _ _ _ HG.out
        go_wp2_with fail
        refine (GoOn.used_f HP.out HG.out).mono ?_
        rintro e w2 ⟨rfl, hg2⟩
        have HG2 := Hid.intro_ hg2
        clear hg2
        go_wp2_with fail
        go_ret
        exact ⟨rfl, HEND.out _ _ HG2.out⟩
      · go_wp2_with fail
        refine (GoOn.close_t HP.out HG.out).mono ?_
        rintro e w1 ⟨rfl, hg1⟩
        obtain ⟨r1, r2⟩ := HR.out _ _ _ hg1
        have HG1 := Hid.intro_ hg1
        clear hg1
        go_wp2_with fail
        refine (GoOn.used_f HP.out HG1.out).mono ?_
        rintro e w2 ⟨rfl, hg2⟩
        have HG2 := Hid.intro_ hg2
        clear hg2
        go_wp2_with fail
        go_ret
        exact ⟨rfl, HEND.out _ _ HG2.out⟩
end Go.Proofs.YtadipinnbehhhaaGreatDoor
namespace Go.Proofs.YtadipinnbehhhaaGreatDoor
open Go.RowKit

/-- A cursor begun. -/
structure CurGo (c : Cx) (name : ByteArray) (L : List R4) (up : Bool) (v r m : Nat) (G : Nat → Prop) (s : RSt) (l : List N3) (bad : Bool) (w : World) (e : Ending) (w' : World) : Prop where mk ::
  out : ∃ cb b q G' s' j, e = .returned (.tuple #[.pointer (some ⟨cb, 0, none⟩), .int .i64 0]) ∧ Went j c.K s s' ∧ Stp w G w' G' ∧ LiveC c name L up v r m cb b w' G' s' q l bad
section
variable {c : Cx} {w w' : World} {b : Nat} {G : Nat → Prop} {s s' : RSt} {fs : List (ByteArray × AFile)} {name : ByteArray} {L rem : List R4} {v r m : Nat} {o : Option (Nat × Nat × Nat)} {n : Int}

theorem rec_root {x : R4} {rest : List R4} (ho : ∀ r ∈ L, r.Ok) (hr : L.reverse = x :: rest) : x.c < 18446744073709551616 :=
  (ho x (List.mem_reverse.1 (by rw [hr]; exact List.mem_cons_self ..))).c
theorem CuR.live {up : Bool} {e : Ending} (h : CuR c name L up v r m G s rem w e w') (t : TapeOn c fs name 2 L) (he : endL L = some (v, r, m)) (hn : L.length = m + 1) (hr : m ≤ rem.length) :
    CurGo c name L up v r m G s (walkN up v r m (rem.take m) 0 ⟨0, 0, 0⟩).1 (walkN up v r m (rem.take m) 0 ⟨0, 0, 0⟩).2 w e w' := by
  obtain ⟨cb, b, j, q, x, s', h1, hj, hq, hw, hl, G', hc, st⟩ := h.out
  obtain ⟨hv, hm, x0, rest, hrev, _, h3, _⟩ := endL_some he
  have hle := t.le
  refine ⟨cb, b, q, G', s', j, h1, hw, st, ⟨x, _, rem, hc, hl, ⟨rfl, Nat.zero_le _, by show m ≤ _; omega, hv, by rw [← h3]; exact rec_root t.oks hrev, fun h => absurd h (Nat.lt_irrefl 0), ⟨(by decide : (0 : Nat) < 18446744073709551616), (by decide : (0 : Nat) < 18446744073709551616), (by decide : (0 : Nat) < 18446744073709551616)⟩, .inl ⟨rfl, by show m - 0 ≤ _; omega, ?_⟩⟩, rfl, rfl, rfl, rfl⟩⟩
  show walkN up v r m (rem.take (m - 0)) 0 ⟨0, 0, 0⟩ = _
  rw [Nat.sub_zero]
theorem up_bad (h : RmAt c w G s) (ha : LookAns c s name o n) (hz : ¬ n = 0) :
    Calls Tryz.prog 27 #[.pointer (some ⟨c.k, 0, none⟩), .string name] w fun e w' => e = .returned (.tuple #[.pointer none, .int .i64 n]) ∧ WentTo c G 3 0 s w w' :=
  up_is _ ((begin_bad true h ha hz).mono fun _ _ ⟨he, t⟩ => ⟨⟨_, _, he⟩, he, t⟩)
theorem down_bad (h : RmAt c w G s) (ha : LookAns c s name o n) (hz : ¬ n = 0) :
    Calls Tryz.prog 28 #[.pointer (some ⟨c.k, 0, none⟩), .string name] w fun e w' => e = .returned (.tuple #[.pointer none, .int .i64 n]) ∧ WentTo c G 3 0 s w w' :=
  down_is _ ((begin_bad false h ha hz).mono fun _ _ ⟨he, t⟩ => ⟨⟨_, _, he⟩, he, t⟩)
theorem up_shape (h : RmAt c w G s) (t : TapeOn c fs name 2 L) (hc : Calm s.D c.block fs) (hcl : s.S.closed = false) (hh : 0 ≤ s.S.hand) (hf : (c.K : Int) ≤ s.S.limit - (s.S.hand + s.S.parts)) (he : endL L = some (v, r, m)) (hn : ¬ L.length = m + 1) :
    Calls Tryz.prog 27 #[.pointer (some ⟨c.k, 0, none⟩), .string name] w fun e w' => e = .returned (.tuple #[.pointer none, .int .i64 72]) ∧ WentTo c G 3 0 s w w' :=
  up_is _ ((begin_shape true h t hc hcl hh hf he hn).mono fun _ _ ⟨he, t⟩ => ⟨⟨_, _, he⟩, he, t⟩)
theorem down_shape (h : RmAt c w G s) (t : TapeOn c fs name 2 L) (hc : Calm s.D c.block fs) (hcl : s.S.closed = false) (hh : 0 ≤ s.S.hand) (hf : (c.K : Int) ≤ s.S.limit - (s.S.hand + s.S.parts)) (he : endL L = some (v, r, m)) (hn : ¬ L.length = m + 1) :
    Calls Tryz.prog 28 #[.pointer (some ⟨c.k, 0, none⟩), .string name] w fun e w' => e = .returned (.tuple #[.pointer none, .int .i64 72]) ∧ WentTo c G 3 0 s w w' :=
  down_is _ ((begin_shape false h t hc hcl hh hf he hn).mono fun _ _ ⟨he, t⟩ => ⟨⟨_, _, he⟩, he, t⟩)
theorem up_go (h : RmAt c w G s) (t : TapeOn c fs name 2 L) (hc : Calm s.D c.block fs) (hcl : s.S.closed = false) (hh : 0 ≤ s.S.hand) (hf : (c.K : Int) ≤ s.S.limit - (s.S.hand + s.S.parts)) (he : endL L = some (v, r, m)) (hn : L.length = m + 1) :
    Calls Tryz.prog 27 #[.pointer (some ⟨c.k, 0, none⟩), .string name] w (CurGo c name L true v r m G s (walkN true v r m (L.take m) 0 ⟨0, 0, 0⟩).1 (walkN true v r m (L.take m) 0 ⟨0, 0, 0⟩).2 w) :=
  up_is _ ((begin_go true h t hc hcl hh hf he hn).mono fun e w1 q => by
    have := q.live t he hn (by show m ≤ L.length; omega)
    obtain ⟨cb, b, q, G', s', j, h1, _⟩ := this.out
    exact ⟨⟨_, _, h1⟩, this⟩)
theorem down_go (h : RmAt c w G s) (t : TapeOn c fs name 2 L) (hc : Calm s.D c.block fs) (hcl : s.S.closed = false) (hh : 0 ≤ s.S.hand) (hf : (c.K : Int) ≤ s.S.limit - (s.S.hand + s.S.parts)) (he : endL L = some (v, r, m)) (hn : L.length = m + 1) :
    Calls Tryz.prog 28 #[.pointer (some ⟨c.k, 0, none⟩), .string name] w (CurGo c name L false v r m G s (walkN false v r m ((L.take m).reverse) 0 ⟨0, 0, 0⟩).1 (walkN false v r m ((L.take m).reverse) 0 ⟨0, 0, 0⟩).2 w) :=
  down_is _ ((begin_go false h t hc hcl hh hf he hn).mono fun e w1 q => by
    have e1 : (L.reverse.tail).take m = (L.take m).reverse := by
      rw [List.take_of_length_le (by simp; omega)]
      have : L.take m = L.dropLast := by rw [List.dropLast_eq_take, hn]; rfl
      rw [this, List.tail_reverse]
    have := q.live t he hn (by show m ≤ L.reverse.tail.length; simp; omega)
    have e2 : (if false = true then L else L.reverse.tail) = L.reverse.tail := rfl
    rw [e2, e1] at this
    obtain ⟨cb, b, q, G', s', j, h1, _⟩ := this.out
    exact ⟨⟨_, _, h1⟩, this⟩)
/-- The answers stay where the purse is as it was. -/
theorem DSt.readable_readsN (D : DSt) (hc : Calm D c.block fs) (j : Nat) : (D.readsN j).readable name = D.readable name := by
  have h1 := hc.readsN j
  have e : (D.readsN j).length name = D.length name := by
    unfold DSt.length DSt.perr DSt.ferr
    rw [h1.files, hc.files, h1.on, hc.on]
  unfold DSt.readable
  rw [e]
theorem openR_went {K : Nat} {j : Nat} (hw : Went j 0 s s') (hc : Calm s.D c.block fs) (hn : openR s.D s.S K name 2 = (n, s.S)) (hz : ¬ n = 0) : openR s'.D s'.S K name 2 = (n, s'.S) := by
  have hfr : s'.S.frees = s.S.frees := by
    unfold PSt.frees
    rw [hw.limit, hw.hand, hw.parts, hw.closed, Int.add_zero]
  rw [hw.D]
  unfold openR at hn ⊢
  rw [DSt.readable_readsN s.D hc j, hfr]
  rw [if_neg (by omega)] at hn ⊢
  by_cases h1 : (s.D.readable name).2 = 0
  · rw [if_neg (by simpa using h1)] at hn ⊢
    by_cases h2 : s.S.frees < K
    · rw [if_pos h2] at hn ⊢
      injection hn with e1 e2
      rw [← e1]
    · rw [if_neg h2] at hn
      injection hn with e1 e2
      exact absurd e1.symm hz
  · rw [if_pos h1] at hn ⊢
    injection hn with e1 e2
    rw [← e1]
theorem LookAns.went {j : Nat} (ha : LookAns c s name o n) (hw : Went j 0 s s') (hc0 : Calm s.D c.block fs) : LookAns c s' name o n := by
  have hcl' := hw.closed
  have hh' := hw.hand
  have hl' := hw.limit
  have hp' := hw.parts
  cases ha with
  | bad _ hn hz h0 h1 =>
    have e1 := DSt.readable_readsN (name := name) s.D hc0 j
    exact .bad n (openR_went hw hc0 hn hz) hz (by rw [hw.D, e1]; exact h0) (by rw [hw.D, e1]; exact h1)
  | kind fs kind L t hc hne hL hcl hh hf => exact .kind fs kind L t (hw.calm hc) hne hL (by rw [hcl']; exact hcl) (by rw [hh']; omega) (by rw [hh', hl', hp']; omega)
  | tape fs L t hc hcl hh hf => exact .tape fs L t (hw.calm hc) (by rw [hcl']; exact hcl) (by rw [hh']; omega) (by rw [hh', hl', hp']; omega)
end
end Go.Proofs.YtadipinnbehhhaaGreatDoor
namespace Go.Proofs.YtadipinnbehhhaaGreatDoor
open Go.RowKit

section
variable (w : World) (E : Nat → Addr) (G : Nat → Prop) (g base : Nat) (m : Mo) (k9 level : Int) (low high root : Nat)

end
end Go.Proofs.YtadipinnbehhhaaGreatDoor
namespace Go.Proofs.YtadipinnbehhhaaGreatDoor
open Go.RowKit

section
variable (w : World) (E : Nat → Addr) (G : Nat → Prop) (g base : Nat) (m : Mo) (k9 level : Int) (low high root : Nat)

end
end Go.Proofs.YtadipinnbehhhaaGreatDoor
namespace Go.Proofs.YtadipinnbehhhaaGreatDoor
open Go.RowKit

section
variable {c : Cx} {w : World} {G : Nat → Prop} {s : RSt} {x : WSt} {y : BSt} {m : Mo} {fs : List (ByteArray × AFile)} {name : ByteArray} {L : Nat → Prop} {bb b g base n lim : Nat}

end
end Go.Proofs.YtadipinnbehhhaaGreatDoor
namespace Go.Proofs.YtadipinnbehhhaaGreatDoor
open Go.RowKit

/-- Files that a room may be held against. -/
structure FsOk (fs : List (ByteArray × AFile)) : Prop where
  rises : rises (fs.map (·.1))
  short : ∀ f ∈ fs, f.1.size ≤ 32
  bytes : Bytes fs
  few : Few fs
section
variable {c : Cx} {w : World} {G : Nat → Prop} {s : RSt} {x : WSt} {y : BSt} {m : Mo} {fs : List (ByteArray × AFile)} {name : ByteArray} {L H : Nat → Prop} {bb b g base n lim : Nat}

end
end Go.Proofs.YtadipinnbehhhaaGreatDoor
namespace Go.Proofs.YtadipinnbehhhaaGreatDoor
open Go.RowKit

/-- The room that Open leaves. -/
theorem open_rm {X w2 : World} {E : Nat → Addr} {d p lk k m0 m K block : Nat} {blocks limit : Int} {fs : List (ByteArray × AFile)} (h : OpenAt X w2 d p lk k m0 m block blocks limit fs) (he : ErrsAt X E) (hh : HalvesAt X) (hm : MagicAt X) (hK : fit block = K) (hK0 : 0 < K) :
    RmAt ⟨E, d, p, lk, k, none, K, block⟩ w2 (RF (fun b => m0 ≤ b ∧ b < m) p lk k) ⟨mountD block blocks fs, PSt.new limit, 1⟩ ∧ ∀ z, RF (fun b => m0 ≤ b ∧ b < m) p lk k z → X.heap.size ≤ z := by
  obtain ⟨l1, l2, l3, l4, l5, l6⟩ := h.lt
  obtain ⟨R, hd⟩ := h.disk
  have hmd : m0 ≤ d ∧ d < m := hd.fd
  have hG : ∀ z, RF (fun b => m0 ≤ b ∧ b < m) p lk k z → X.heap.size ≤ z := fun z hz => by
    rcases hz with hz | (hz | hz) | hz <;> omega
  have hv : ∀ i, i < 9 → ¬ RF (fun b => m0 ≤ b ∧ b < m) p lk k (errVar i) := fun i hi hf => by
    have := hG _ hf
    have := he.old i hi
    omega
  have hb : ∀ i, i < 9 → ¬ RF (fun b => m0 ≤ b ∧ b < m) p lk k (E i).block := fun i hi hf => by
    have := hG _ hf
    obtain ⟨cs, t, hb⟩ := he.blk i hi
    have := lt_of_heap hb
    omega
  have hnh : ¬ RF (fun b => m0 ≤ b ∧ b < m) p lk k 11 := fun hf => by
    have := hG _ hf
    have := cell_lt (hh 0 (by decide))
    simp only at this
    omega
  have hnm : ¬ RF (fun b => m0 ≤ b ∧ b < m) p lk k 9 := fun hf => by
    have := hG _ hf
    have := cell_lt (hm 0 83 rfl)
    simp only at this
    omega
  have henv : Env w2 (RF (fun b => m0 ≤ b ∧ b < m) p lk k) E := ⟨he.keep h.keep (fun _ _ h => h) (fun _ _ h => h), hv, hb⟩
  refine ⟨⟨⟨_, rfl, ⟨R, hd⟩, h.purse, ?_, henv, fun hf => ?_, fun hf => ?_, fun hf => ?_⟩, ⟨henv, hh.keep h.keep (fun h => h), hm.keep h.keep (fun h => h), hnh, hnm⟩, rfl, hK, hK0⟩, hG⟩
  · have := h.desk
    rw [hK] at this
    exact this
  · have hf : m0 ≤ p ∧ p < m := hf
    omega
  · have hf : m0 ≤ lk ∧ lk < m := hf
    omega
  · have hf : m0 ≤ k ∧ k < m := hf
    omega
theorem own_le {w : World} {base : Nat} {e : TypeId} {size n c : Nat} {A : Option Addr} {xs : List Value} (h : w.ownsRow base e size (.slice A n c) n xs) : n ≤ c ∧ ∀ a, A = some a → a.spot = none := by
  rcases h.2 with ⟨e, h0⟩ | ⟨g, cap, cur, e, _, _, hle, _⟩
  · injection e with e1 e2 e3
    exact ⟨by omega, fun a ha => by rw [e1] at ha; cases ha⟩
  · injection e with e1 e2 e3
    exact ⟨by omega, fun a ha => by rw [e1] at ha; injection ha with ha; subst ha; rfl⟩
/-- A file in a row of its own. -/
theorem one_file {w : World} {H : Nat → Prop} {f : ByteArray × AFile} {Av : Option Addr} {cv : Nat} (h : FsAt w H (.slice Av f.2.blocks.length cv) f.2.blocks) :
    FlAt (w.alloc (.cells #[.string f.1, .bool f.2.done, .slice Av f.2.blocks.length cv] 55)) (fun b => H b ∨ w.heap.size ≤ b) (.slice (some ⟨w.heap.size, 0, none⟩) 1 1) [f] := by
  have k0 := (Keep.refl Nil w).alloc (.cells #[.string f.1, .bool f.2.done, .slice Av f.2.blocks.length cv] 55)
  have b0 := Blk.new w 55 #[.string f.1, .bool f.2.done, .slice Av f.2.blocks.length cv]
  refine ⟨some ⟨w.heap.size, 0, none⟩, 1, [.slice Av f.2.blocks.length cv], rfl, rfl, fun j u hu => ⟨_, rfl, ?_⟩, fun a e => ?_, fun a e => ?_, fun j r f' hr hf => ?_⟩
  · rw [add_at, Nat.zero_add]
    refine (b0.at_ j).trans ?_
    rw [← hu, List.getElem?_toArray]
    rfl
  · injection e with e
    subst e
    exact ⟨.inr (Nat.le_refl _), b0.lt, rfl⟩
  · injection e with e
    subst e
    exact ⟨_, _, b0⟩
  · match j with
    | 0 => injection hr with hr; injection hf with hf; subst hr hf; exact (h.nil k0).mono (fun b hb _ => .inl hb)
    | j + 1 => simp at hr
end Go.Proofs.YtadipinnbehhhaaGreatDoor
namespace Go.Proofs.YtadipinnbehhhaaGreatDoor
open Go.RowKit

set_option maxRecDepth 100000 in
set_option maxHeartbeats 2000000 in
theorem blocks_nil (kind block : Nat) (A : Option Addr) (lc : Nat) (l : List R4) (w : World) (hb : 64 ≤ block ∧ block ≤ 65536 ∧ block % 32 = 0) (hnil : l = []) :
    Calls Tryz.prog 76 #[.int .i64 kind, .slice A l.length lc, .int .i64 block] w (BlocksPost w (blocksB kind l block)) := by
  obtain ⟨F, hF⟩ : ∃ F, F = block / 32 - 1 := ⟨_, rfl⟩
  have hF1 : 1 ≤ F ∧ F ≤ 2047 := by omega
  have hfit : fit block = (F : Int) := by
    unfold fit
    rw [if_neg (by omega)]; omega
  have hft := fun w => rfit_any block w
  rw [hfit] at hft
  have hbl : Hid (blocksB kind l block = []) := Hid.intro_ (by
    apply List.eq_nil_of_length_eq_zero
    unfold blocksB
    rw [List.length_map, List.length_range, ← hF, hnil]
    unfold nblk
    exact Nat.div_eq_of_lt (by simp; omega))
  have hl0 : l.length = 0 := by rw [hnil]; rfl
  have hFi : (0 : Int) < (F : Int) := by omega
  rw [hl0]
  clear hfit hF hb hnil
  go_enter Tryz.func76, Tryz.ntmps76
  go_wp2_with (go_at_call 10; refine (hft _).mono ?_; rintro e w2 ⟨rfl, hw2⟩; obtain rfl := hw2.symm)
  go_loopw [8, 9] (fun q j wr => q = .slice none 0 0 ∧ j = .int .i64 0 ∧ Keep Nil w wr) (fun _ j _ => 0)
  case atStart => exact ⟨rfl, rfl, Keep.refl _ _⟩
  case round =>
    obtain ⟨rfl, rfl, kwr⟩ := hrel
    go_wp2
    go_ret
    refine ⟨_, rfl, ?_, kwr⟩
    rw [hbl.out]
    exact (OFs.nil_ wr 0 _).fs (fun g hg => by cases hg)
set_option maxRecDepth 100000 in
set_option maxHeartbeats 2000000 in
/-- No records as a closed file: the slice's address is of no weight. -/
theorem tape_nil (s : ByteArray) (kind block : Nat) (A : Option Addr) (lc : Nat) (l : List R4) (w : World) (hnil : l = []) (hb : 64 ≤ block ∧ block ≤ 65536 ∧ block % 32 = 0)
    :
    Calls Tryz.prog 22 #[.string s, .int .i64 kind, .slice A l.length lc, .int .i64 block] w fun e w' => ∃ v, e = .returned (.agg #[.string s, .bool true, v]) ∧ FsAt w' (fun b => w.heap.size ≤ b) v (blocksB kind l block) ∧ Keep Nil w w' := by
  have HB := Hid.intro_ (blocks_nil kind block A lc l (w.alloc (.cells #[.string ⟨#[]⟩, .bool false, .slice none 0 0] 55)) hb hnil)
  clear hb hnil
  go_enter Tryz.func22, Tryz.ntmps22
  have b0 := Blk.new w 55 #[.string ⟨#[]⟩, .bool false, .slice none 0 0]
  go_wp2_with (go_at_call 76; refine HB.out.mono ?_; rintro e w2 ⟨v, rfl, hfs, k2⟩
               have b2 := b0.keep k2 (fun h => h)
               have z0 : w2.cell? ⟨w.heap.size, 0, none⟩ = some (.string ⟨#[]⟩) := b2.at_ 0
               have z1 : w2.cell? ⟨w.heap.size, 1, none⟩ = some (.bool false) := b2.at_ 1
               have z2 : w2.cell? ⟨w.heap.size, 2, none⟩ = some (.slice none 0 0) := b2.at_ 2
               have f0 := b2.fr 0
               have f1 := b2.fr 1
               have f2 := b2.fr 2
               obtain ⟨Av, cv, vs, rfl, hfs2⟩ := hfs.out
               have HFS := Hid.intro_ hfs
               clear hfs hfs2)
  refine bodyPost_ret (v := .agg #[.string s, .bool true, .slice Av (blocksB kind l block).length cv]) (by simp [results, Tryz.results22, go_sem, z0, z1, z2]) rfl ?_
  have ks := (((Keep.refl (fun b => b = w.heap.size) w2).setCell (p := ⟨w.heap.size, 0, none⟩) (fun _ => rfl) (.string s)).setCell (p := ⟨w.heap.size, 1, none⟩) (fun _ => rfl) (.bool true)).setCell (p := ⟨w.heap.size, 2, none⟩) (fun _ => rfl) (.slice Av (blocksB kind l block).length cv)
  have hty : ∀ cs t fr, w2.heap[w.heap.size]? = some (.cells cs t fr) → t = 55 := fun cs t fr hc => by
    have hb := b2
    unfold Blk at hb
    rw [hc] at hb
    injection hb with hb
    injection hb with _ hb
  refine ⟨_, rfl, ((HFS.out.mono (fun b hb _ => by simp at hb; omega)).far (g := w.heap.size) ks (fun cs fr hc => absurd (hty cs _ fr hc) (by decide)) (fun cs fr hc => absurd (hty cs _ fr hc) (by decide))), ?_⟩
  exact (((Keep.refl Nil w).alloc _).then_ k2).trans ks (fun b hb e => by have : b = w.heap.size := e; omega)
def nmF : ByteArray := ⟨#[102]⟩
def nmG : ByteArray := ⟨#[103]⟩
def nmFF : ByteArray := ⟨#[102, 32, 102]⟩
def rdFile (how : Int) (L : List R4) (block : Nat) : AFile := if how = 1 then ⟨true, blocksB 1 L block⟩ else if how = 2 then ⟨false, blocksB 2 L block⟩ else ⟨true, blocksB 2 L block⟩
def rdName (how : Int) : ByteArray := if how = 3 then nmG else if how = 4 then nmFF else nmF
def rdErr (how : Int) (L : List R4) : Int := if how = 1 then (if L = [] then 0 else 32) else if how = 2 then 15 else if how = 3 then 12 else if how = 4 then 11 else if how = 5 then 2 else 0
structure FilesPost (how : Int) (L : List R4) (block : Nat) (w : World) (e : Ending) (w' : World) : Prop where mk ::
  out : ∃ A, e = .returned (.tuple #[.string (rdName how), .slice A 1 1, .int .i64 (rdErr how L)]) ∧ FlAt w' (fun b => w.heap.size ≤ b) (.slice A 1 1) [(nmF, rdFile how L block)] ∧ Keep Nil w w'
/-- A file in memory, in a row of its own. -/
theorem one_row {w X : World} {H : Nat → Prop} {f : ByteArray × AFile} {Av : Option Addr} {cv : Nat} (h : FsAt w H (.slice Av f.2.blocks.length cv) f.2.blocks) (hX : X = w.alloc (.cells #[.string f.1, .bool f.2.done, .slice Av f.2.blocks.length cv] 55)) :
    FlAt X (fun b => H b ∨ w.heap.size ≤ b) (.slice (some ⟨w.heap.size, 0, none⟩) 1 1) [f] := by
  subst hX
  exact one_file h
set_option maxRecDepth 100000 in
set_option maxHeartbeats 2000000 in
theorem files_any (how : Int) (A : Option Addr) (lc block : Nat) (L : List R4) (w : World) (hb : 64 ≤ block ∧ block ≤ 65536 ∧ block % 32 = 0) (hl : L.length ≤ lc ∧ L.length ≤ 1099511627776)
    (hc : Rd w A (rcCells L)) (hA : L ≠ [] → ∀ a, A = some a → a.spot = none) (hr : ∀ r ∈ L, r.Ok) :
    Calls Tryz.prog 23 #[.slice A L.length lc, .int .i64 block, .int .i64 how] w (FilesPost how L block w) := by
  have HT : Hid (∀ kind : Nat, 1 ≤ kind ∧ kind ≤ 255 → ∀ W, Keep Nil w W → Calls Tryz.prog 22 #[.string nmF, .int .i64 kind, .slice A L.length lc, .int .i64 block] W fun e w' => ∃ Av cv, e = .returned (.agg #[.string nmF, .bool true, .slice Av (blocksB kind L block).length cv]) ∧ FsAt w' (fun b => W.heap.size ≤ b) (.slice Av (blocksB kind L block).length cv) (blocksB kind L block) ∧ Keep Nil W w') := Hid.intro_ (fun kind hk W kW => by
    have htp : Calls Tryz.prog 22 #[.string nmF, .int .i64 kind, .slice A L.length lc, .int .i64 block] W fun e w' => ∃ v, e = .returned (.agg #[.string nmF, .bool true, v]) ∧ FsAt w' (fun b => W.heap.size ≤ b) v (blocksB kind L block) ∧ Keep Nil W w' := by
      by_cases hL : L = []
      · exact tape_nil nmF kind block A lc L W hL hb
      · exact tape_any nmF kind block A lc L W hk hb hl (hc.keep kW (fun _ _ _ h => h)) (hA hL) hr
    refine htp.mono fun e w2 ⟨v, he, hf, k2⟩ => ?_
    have hf' := hf
    obtain ⟨Av, cv, _, e2, _⟩ := hf'.out
    subst e2
    exact ⟨Av, cv, he, hf, k2⟩)
  have h0 : 0 ≤ (L.length : Int) := by omega
  have hl2 : (L.length : Int) ≤ 1099511627776 := by omega
  have HRET : Hid (∀ (f : AFile) (X Y : World) (Av : Option Addr) (cv : Nat), f = rdFile how L block → FsAt X (fun b => w.heap.size ≤ b) (.slice Av f.blocks.length cv) f.blocks → Keep Nil w X → Y = (X.alloc (.cells #[.string nmF, .bool f.done, .slice Av f.blocks.length cv] 55)).drew →
      FlAt Y (fun b => w.heap.size ≤ b) (.slice (some ⟨X.heap.size, 0, none⟩) 1 1) [(nmF, rdFile how L block)] ∧ Keep Nil w Y) := Hid.intro_ (fun f X Y Av cv e hf k2 hY => by
    subst e
    have hsz := k2.size
    obtain ⟨Z, hZ⟩ : ∃ Z, Z = X.alloc (.cells #[.string nmF, .bool (rdFile how L block).done, .slice Av (rdFile how L block).blocks.length cv] 55) := ⟨_, rfl⟩
    rw [← hZ] at hY
    have h1 := (one_row (f := (nmF, rdFile how L block)) hf hZ).mono (H' := fun b => w.heap.size ≤ b) (fun b hb _ => by rcases hb with h | h; exact h; omega)
    have kZ : Keep Nil w Z := by rw [hZ]; exact k2.alloc _
    rw [hY]
    exact ⟨h1.nil (Keep.refl Nil Z).drew, kZ.drew⟩)
  clear hc hA hr hb
  by_cases h1 : how = 1
  · by_cases hL : L = []
    · have q0 : ¬ (0 : Int) < (L.length : Int) := by rw [hL]; simp
      have HRF : Hid ((⟨true, blocksB 1 L block⟩ : AFile) = rdFile how L block) := Hid.intro_ (by unfold rdFile; simp [*])
      have HRN : Hid (rdName how = nmF) := Hid.intro_ (by unfold rdName; simp [*])
      have HRE : Hid (rdErr how L = 0) := Hid.intro_ (by unfold rdErr; simp [*])
      subst h1
      clear hL
      go_enter Tryz.func23, Tryz.ntmps23
      go_wp2_with fail
      refine (HT.out 2 (by omega) w (Keep.refl _ _)).mono ?_
      rintro e w0 ⟨A0, c0, rfl, hf1, k1⟩
      have hsz0 : Hid (w.heap.size ≤ w0.heap.size) := Hid.intro_ k1.size
      have K1 := Hid.intro_ k1
      clear hf1 k1
      go_upto_region 4 with (fail)
      generalize hX : w0.alloc (.cells #[.string nmF, .bool true, .slice A0 (blocksB 2 L block).length c0] 55) = X0 at *
      have kX : Keep Nil w0 X0 := by rw [← hX]; exact (Keep.refl Nil w0).alloc _
      have bX : Blk X0 w0.heap.size 55 #[.string nmF, .bool true, .slice A0 (blocksB 2 L block).length c0] := by rw [← hX]; exact Blk.new w0 _ _
      have KX0 := Hid.intro_ (K1.out.then_ kX)
      have BX := Hid.intro_ bX
      clear hX kX bX K1
      go_wp2_with fail
      refine (HT.out 1 (by omega) X0 KX0.out).mono ?_
      rintro e w1 ⟨Av, cv, rfl, hf1, k1⟩
      have b1 := BX.out.keep k1 (fun h => h)
      have z0 : w1.cell? ⟨w0.heap.size, 0, none⟩ = some (.string nmF) := b1.at_ 0
      have z1 : w1.cell? ⟨w0.heap.size, 1, none⟩ = some (.bool true) := b1.at_ 1
      have z2 : w1.cell? ⟨w0.heap.size, 2, none⟩ = some (.slice A0 (blocksB 2 L block).length c0) := b1.at_ 2
      have f0 := b1.fr 0
      have f1 := b1.fr 1
      have f2 := b1.fr 2
      have B1 := Hid.intro_ b1
      have HF1 := Hid.intro_ hf1
      have K1 := Hid.intro_ (KX0.out.then_ k1)
      have HLT : Hid (w.heap.size ≤ w0.heap.size ∧ w0.heap.size < X0.heap.size) := Hid.intro_ ⟨hsz0.out, BX.out.lt⟩
      clear hf1 k1 b1
      go_upto_region 5 with (fail)
      generalize hX : ((w1.setCell ⟨w0.heap.size, 0, none⟩ (.string nmF)).setCell ⟨w0.heap.size, 1, none⟩ (.bool true)).setCell ⟨w0.heap.size, 2, none⟩ (.slice Av (blocksB 1 L block).length cv) = X at *
      obtain ⟨y0, y1, y2, kX⟩ := set3_at B1.out (.string nmF) (.bool true) (.slice Av (blocksB 1 L block).length cv) X (.inl hX.symm)
      have HFX : Hid (FsAt X (fun b => w.heap.size ≤ b) (.slice Av (blocksB 1 L block).length cv) (blocksB 1 L block)) := Hid.intro_ ((HF1.out.keep kX (fun b hb _ e => by have := HLT.out; have e : b = w0.heap.size := e; omega)).mono (fun b hb _ => by have := HLT.out; omega))
      have KX : Hid (Keep Nil w X) := Hid.intro_ (K1.out.trans kX (fun b hb e => by have := HLT.out; have e : b = w0.heap.size := e; omega))
      clear hX kX z0 z1 z2 f0 f1 f2
      go_wp2_with fail
      go_region_held3 (fun w' => w'.cell? ⟨w0.heap.size, 0, none⟩ = some (.string nmF) ∧ w'.cell? ⟨w0.heap.size, 1, none⟩ = some (.bool true) ∧ w'.cell? ⟨w0.heap.size, 2, none⟩ = some (.slice Av (blocksB 1 L block).length cv)) (first | exact ⟨y0, y1, y2⟩ | go_keep) (fail)
      all_goals
        go_wp2_with fail
        go_ret3
        obtain ⟨r1, r2⟩ := HRET.out ⟨true, blocksB 1 L block⟩ X _ Av cv HRF.out HFX.out KX.out rfl
        exact ⟨_, by rw [HRN.out, HRE.out]; rfl, r1, r2⟩
    · have q0 : (0 : Int) < (L.length : Int) := by have := List.length_pos_iff.2 hL; omega
      have HRF : Hid ((⟨true, blocksB 1 L block⟩ : AFile) = rdFile how L block) := Hid.intro_ (by unfold rdFile; simp [*])
      have HRN : Hid (rdName how = nmF) := Hid.intro_ (by unfold rdName; simp [*])
      have HRE : Hid (rdErr how L = 32) := Hid.intro_ (by unfold rdErr; simp [*])
      subst h1
      clear hL
      go_enter Tryz.func23, Tryz.ntmps23
      go_wp2_with fail
      refine (HT.out 2 (by omega) w (Keep.refl _ _)).mono ?_
      rintro e w0 ⟨A0, c0, rfl, hf1, k1⟩
      have hsz0 : Hid (w.heap.size ≤ w0.heap.size) := Hid.intro_ k1.size
      have K1 := Hid.intro_ k1
      clear hf1 k1
      go_upto_region 4 with (fail)
      generalize hX : w0.alloc (.cells #[.string nmF, .bool true, .slice A0 (blocksB 2 L block).length c0] 55) = X0 at *
      have kX : Keep Nil w0 X0 := by rw [← hX]; exact (Keep.refl Nil w0).alloc _
      have bX : Blk X0 w0.heap.size 55 #[.string nmF, .bool true, .slice A0 (blocksB 2 L block).length c0] := by rw [← hX]; exact Blk.new w0 _ _
      have KX0 := Hid.intro_ (K1.out.then_ kX)
      have BX := Hid.intro_ bX
      clear hX kX bX K1
      go_wp2_with fail
      refine (HT.out 1 (by omega) X0 KX0.out).mono ?_
      rintro e w1 ⟨Av, cv, rfl, hf1, k1⟩
      have b1 := BX.out.keep k1 (fun h => h)
      have z0 : w1.cell? ⟨w0.heap.size, 0, none⟩ = some (.string nmF) := b1.at_ 0
      have z1 : w1.cell? ⟨w0.heap.size, 1, none⟩ = some (.bool true) := b1.at_ 1
      have z2 : w1.cell? ⟨w0.heap.size, 2, none⟩ = some (.slice A0 (blocksB 2 L block).length c0) := b1.at_ 2
      have f0 := b1.fr 0
      have f1 := b1.fr 1
      have f2 := b1.fr 2
      have B1 := Hid.intro_ b1
      have HF1 := Hid.intro_ hf1
      have K1 := Hid.intro_ (KX0.out.then_ k1)
      have HLT : Hid (w.heap.size ≤ w0.heap.size ∧ w0.heap.size < X0.heap.size) := Hid.intro_ ⟨hsz0.out, BX.out.lt⟩
      clear hf1 k1 b1
      go_upto_region 5 with (fail)
      generalize hX : ((w1.setCell ⟨w0.heap.size, 0, none⟩ (.string nmF)).setCell ⟨w0.heap.size, 1, none⟩ (.bool true)).setCell ⟨w0.heap.size, 2, none⟩ (.slice Av (blocksB 1 L block).length cv) = X at *
      obtain ⟨y0, y1, y2, kX⟩ := set3_at B1.out (.string nmF) (.bool true) (.slice Av (blocksB 1 L block).length cv) X (.inl hX.symm)
      have HFX : Hid (FsAt X (fun b => w.heap.size ≤ b) (.slice Av (blocksB 1 L block).length cv) (blocksB 1 L block)) := Hid.intro_ ((HF1.out.keep kX (fun b hb _ e => by have := HLT.out; have e : b = w0.heap.size := e; omega)).mono (fun b hb _ => by have := HLT.out; omega))
      have KX : Hid (Keep Nil w X) := Hid.intro_ (K1.out.trans kX (fun b hb e => by have := HLT.out; have e : b = w0.heap.size := e; omega))
      clear hX kX z0 z1 z2 f0 f1 f2
      go_wp2_with fail
      go_region_held3 (fun w' => w'.cell? ⟨w0.heap.size, 0, none⟩ = some (.string nmF) ∧ w'.cell? ⟨w0.heap.size, 1, none⟩ = some (.bool true) ∧ w'.cell? ⟨w0.heap.size, 2, none⟩ = some (.slice Av (blocksB 1 L block).length cv)) (first | exact ⟨y0, y1, y2⟩ | go_keep) (fail)
      all_goals
        go_wp2_with fail
        go_ret3
        obtain ⟨r1, r2⟩ := HRET.out ⟨true, blocksB 1 L block⟩ X _ Av cv HRF.out HFX.out KX.out rfl
        exact ⟨_, by rw [HRN.out, HRE.out]; rfl, r1, r2⟩
  · have q1 : (how == 1) = false := by simpa using h1
    by_cases h2 : how = 2
    · have HRF : Hid ((⟨false, blocksB 2 L block⟩ : AFile) = rdFile how L block) := Hid.intro_ (by unfold rdFile; simp [*])
      have HRN : Hid (rdName how = nmF) := Hid.intro_ (by unfold rdName; simp [*])
      have HRE : Hid (rdErr how L = 15) := Hid.intro_ (by unfold rdErr; simp [*])
      subst h2
      clear h1 q1
      go_enter Tryz.func23, Tryz.ntmps23
      go_wp2_with fail
      refine (HT.out 2 (by omega) w (Keep.refl _ _)).mono ?_
      rintro e w1 ⟨Av, cv, rfl, hf1, k1⟩
      have HF1 := Hid.intro_ hf1
      have K1 := Hid.intro_ k1
      clear hf1 k1
      go_upto_region 9 with (fail)
      generalize hX : w1.alloc (.cells #[.string nmF, .bool false, .slice Av (blocksB 2 L block).length cv] 55) = X at *
      have kX : Keep Nil w1 X := by rw [← hX]; exact (Keep.refl Nil w1).alloc _
      have bX : Blk X w1.heap.size 55 #[.string nmF, .bool false, .slice Av (blocksB 2 L block).length cv] := by rw [← hX]; exact Blk.new w1 _ _
      have y0 : X.cell? ⟨w1.heap.size, 0, none⟩ = some (.string nmF) := bX.at_ 0
      have y1 : X.cell? ⟨w1.heap.size, 1, none⟩ = some (.bool false) := bX.at_ 1
      have y2 : X.cell? ⟨w1.heap.size, 2, none⟩ = some (.slice Av (blocksB 2 L block).length cv) := bX.at_ 2
      have HFX := Hid.intro_ (HF1.out.nil kX)
      have KX := Hid.intro_ (K1.out.then_ kX)
      clear hX kX bX
      go_region_held3 (fun w' => w'.cell? ⟨w1.heap.size, 0, none⟩ = some (.string nmF) ∧ w'.cell? ⟨w1.heap.size, 1, none⟩ = some (.bool false) ∧ w'.cell? ⟨w1.heap.size, 2, none⟩ = some (.slice Av (blocksB 2 L block).length cv)) (first | exact ⟨y0, y1, y2⟩ | go_keep) (fail)
      all_goals
        go_wp2_with fail
        go_ret3
        obtain ⟨r1, r2⟩ := HRET.out ⟨false, blocksB 2 L block⟩ X _ Av cv HRF.out HFX.out KX.out rfl
        exact ⟨_, by rw [HRN.out, HRE.out]; rfl, r1, r2⟩
    have q2 : (how == 2) = false := by simpa using h2
    by_cases h3 : how = 3
    · have HRF : Hid ((⟨true, blocksB 2 L block⟩ : AFile) = rdFile how L block) := Hid.intro_ (by unfold rdFile; simp [*])
      have HRN : Hid (rdName how = nmG) := Hid.intro_ (by unfold rdName; simp [*])
      have HRE : Hid (rdErr how L = 12) := Hid.intro_ (by unfold rdErr; simp [*])
      subst h3
      clear h1 q1
      go_enter Tryz.func23, Tryz.ntmps23
      go_wp2_with fail
      refine (HT.out 2 (by omega) w (Keep.refl _ _)).mono ?_
      rintro e w1 ⟨Av, cv, rfl, hf1, k1⟩
      have HF1 := Hid.intro_ hf1
      have K1 := Hid.intro_ k1
      clear hf1 k1
      go_upto_region 11 with (fail)
      generalize hX : w1.alloc (.cells #[.string nmF, .bool true, .slice Av (blocksB 2 L block).length cv] 55) = X at *
      have kX : Keep Nil w1 X := by rw [← hX]; exact (Keep.refl Nil w1).alloc _
      have bX : Blk X w1.heap.size 55 #[.string nmF, .bool true, .slice Av (blocksB 2 L block).length cv] := by rw [← hX]; exact Blk.new w1 _ _
      have y0 : X.cell? ⟨w1.heap.size, 0, none⟩ = some (.string nmF) := bX.at_ 0
      have y1 : X.cell? ⟨w1.heap.size, 1, none⟩ = some (.bool true) := bX.at_ 1
      have y2 : X.cell? ⟨w1.heap.size, 2, none⟩ = some (.slice Av (blocksB 2 L block).length cv) := bX.at_ 2
      have HFX := Hid.intro_ (HF1.out.nil kX)
      have KX := Hid.intro_ (K1.out.then_ kX)
      clear hX kX bX
      go_region_held3 (fun w' => w'.cell? ⟨w1.heap.size, 0, none⟩ = some (.string nmF) ∧ w'.cell? ⟨w1.heap.size, 1, none⟩ = some (.bool true) ∧ w'.cell? ⟨w1.heap.size, 2, none⟩ = some (.slice Av (blocksB 2 L block).length cv)) (first | exact ⟨y0, y1, y2⟩ | go_keep) (fail)
      all_goals
        go_wp2_with fail
        go_ret3
        obtain ⟨r1, r2⟩ := HRET.out ⟨true, blocksB 2 L block⟩ X _ Av cv HRF.out HFX.out KX.out rfl
        exact ⟨_, by rw [HRN.out, HRE.out]; rfl, r1, r2⟩
    have q3 : (how == 3) = false := by simpa using h3
    by_cases h4 : how = 4
    · have HRF : Hid ((⟨true, blocksB 2 L block⟩ : AFile) = rdFile how L block) := Hid.intro_ (by unfold rdFile; simp [*])
      have HRN : Hid (rdName how = nmFF) := Hid.intro_ (by unfold rdName; simp [*])
      have HRE : Hid (rdErr how L = 11) := Hid.intro_ (by unfold rdErr; simp [*])
      subst h4
      clear h1 q1
      go_enter Tryz.func23, Tryz.ntmps23
      go_wp2_with fail
      refine (HT.out 2 (by omega) w (Keep.refl _ _)).mono ?_
      rintro e w1 ⟨Av, cv, rfl, hf1, k1⟩
      have HF1 := Hid.intro_ hf1
      have K1 := Hid.intro_ k1
      clear hf1 k1
      go_upto_region 13 with (fail)
      generalize hX : w1.alloc (.cells #[.string nmF, .bool true, .slice Av (blocksB 2 L block).length cv] 55) = X at *
      have kX : Keep Nil w1 X := by rw [← hX]; exact (Keep.refl Nil w1).alloc _
      have bX : Blk X w1.heap.size 55 #[.string nmF, .bool true, .slice Av (blocksB 2 L block).length cv] := by rw [← hX]; exact Blk.new w1 _ _
      have y0 : X.cell? ⟨w1.heap.size, 0, none⟩ = some (.string nmF) := bX.at_ 0
      have y1 : X.cell? ⟨w1.heap.size, 1, none⟩ = some (.bool true) := bX.at_ 1
      have y2 : X.cell? ⟨w1.heap.size, 2, none⟩ = some (.slice Av (blocksB 2 L block).length cv) := bX.at_ 2
      have HFX := Hid.intro_ (HF1.out.nil kX)
      have KX := Hid.intro_ (K1.out.then_ kX)
      clear hX kX bX
      go_region_held3 (fun w' => w'.cell? ⟨w1.heap.size, 0, none⟩ = some (.string nmF) ∧ w'.cell? ⟨w1.heap.size, 1, none⟩ = some (.bool true) ∧ w'.cell? ⟨w1.heap.size, 2, none⟩ = some (.slice Av (blocksB 2 L block).length cv)) (first | exact ⟨y0, y1, y2⟩ | go_keep) (fail)
      all_goals
        go_wp2_with fail
        go_ret3
        obtain ⟨r1, r2⟩ := HRET.out ⟨true, blocksB 2 L block⟩ X _ Av cv HRF.out HFX.out KX.out rfl
        exact ⟨_, by rw [HRN.out, HRE.out]; rfl, r1, r2⟩
    have q4 : (how == 4) = false := by simpa using h4
    by_cases h5 : how = 5
    · have HRF : Hid ((⟨true, blocksB 2 L block⟩ : AFile) = rdFile how L block) := Hid.intro_ (by unfold rdFile; simp [*])
      have HRN : Hid (rdName how = nmF) := Hid.intro_ (by unfold rdName; simp [*])
      have HRE : Hid (rdErr how L = 2) := Hid.intro_ (by unfold rdErr; simp [*])
      subst h5
      clear h1 q1
      go_enter Tryz.func23, Tryz.ntmps23
      go_wp2_with fail
      refine (HT.out 2 (by omega) w (Keep.refl _ _)).mono ?_
      rintro e w1 ⟨Av, cv, rfl, hf1, k1⟩
      have HF1 := Hid.intro_ hf1
      have K1 := Hid.intro_ k1
      clear hf1 k1
      go_upto_region 15 with (fail)
      generalize hX : w1.alloc (.cells #[.string nmF, .bool true, .slice Av (blocksB 2 L block).length cv] 55) = X at *
      have kX : Keep Nil w1 X := by rw [← hX]; exact (Keep.refl Nil w1).alloc _
      have bX : Blk X w1.heap.size 55 #[.string nmF, .bool true, .slice Av (blocksB 2 L block).length cv] := by rw [← hX]; exact Blk.new w1 _ _
      have y0 : X.cell? ⟨w1.heap.size, 0, none⟩ = some (.string nmF) := bX.at_ 0
      have y1 : X.cell? ⟨w1.heap.size, 1, none⟩ = some (.bool true) := bX.at_ 1
      have y2 : X.cell? ⟨w1.heap.size, 2, none⟩ = some (.slice Av (blocksB 2 L block).length cv) := bX.at_ 2
      have HFX := Hid.intro_ (HF1.out.nil kX)
      have KX := Hid.intro_ (K1.out.then_ kX)
      clear hX kX bX
      go_region_held3 (fun w' => w'.cell? ⟨w1.heap.size, 0, none⟩ = some (.string nmF) ∧ w'.cell? ⟨w1.heap.size, 1, none⟩ = some (.bool true) ∧ w'.cell? ⟨w1.heap.size, 2, none⟩ = some (.slice Av (blocksB 2 L block).length cv)) (first | exact ⟨y0, y1, y2⟩ | go_keep) (fail)
      all_goals
        go_wp2_with fail
        go_ret3
        obtain ⟨r1, r2⟩ := HRET.out ⟨true, blocksB 2 L block⟩ X _ Av cv HRF.out HFX.out KX.out rfl
        exact ⟨_, by rw [HRN.out, HRE.out]; rfl, r1, r2⟩
    have q5 : (how == 5) = false := by simpa using h5
    have HRF : Hid ((⟨true, blocksB 2 L block⟩ : AFile) = rdFile how L block) := Hid.intro_ (by unfold rdFile; simp [*])
    have HRN : Hid (rdName how = nmF) := Hid.intro_ (by unfold rdName; simp [*])
    have HRE : Hid (rdErr how L = 0) := Hid.intro_ (by unfold rdErr; simp [*])
    clear h1 h2 h3 h4 h5
    go_enter Tryz.func23, Tryz.ntmps23
    go_wp2_with fail
    refine (HT.out 2 (by omega) w (Keep.refl _ _)).mono ?_
    rintro e w1 ⟨Av, cv, rfl, hf1, k1⟩
    have HF1 := Hid.intro_ hf1
    have K1 := Hid.intro_ k1
    clear hf1 k1
    go_upto_region 16 with (fail)
    generalize hX : w1.alloc (.cells #[.string nmF, .bool true, .slice Av (blocksB 2 L block).length cv] 55) = X at *
    have kX : Keep Nil w1 X := by rw [← hX]; exact (Keep.refl Nil w1).alloc _
    have bX : Blk X w1.heap.size 55 #[.string nmF, .bool true, .slice Av (blocksB 2 L block).length cv] := by rw [← hX]; exact Blk.new w1 _ _
    have y0 : X.cell? ⟨w1.heap.size, 0, none⟩ = some (.string nmF) := bX.at_ 0
    have y1 : X.cell? ⟨w1.heap.size, 1, none⟩ = some (.bool true) := bX.at_ 1
    have y2 : X.cell? ⟨w1.heap.size, 2, none⟩ = some (.slice Av (blocksB 2 L block).length cv) := bX.at_ 2
    have HFX := Hid.intro_ (HF1.out.nil kX)
    have KX := Hid.intro_ (K1.out.then_ kX)
    clear hX kX bX
    go_region_held3 (fun w' => w'.cell? ⟨w1.heap.size, 0, none⟩ = some (.string nmF) ∧ w'.cell? ⟨w1.heap.size, 1, none⟩ = some (.bool true) ∧ w'.cell? ⟨w1.heap.size, 2, none⟩ = some (.slice Av (blocksB 2 L block).length cv)) (first | exact ⟨y0, y1, y2⟩ | go_keep) (fail)
    all_goals
      go_wp2_with fail
      go_ret3
      obtain ⟨r1, r2⟩ := HRET.out ⟨true, blocksB 2 L block⟩ X _ Av cv HRF.out HFX.out KX.out rfl
      exact ⟨_, by rw [HRN.out, HRE.out]; rfl, r1, r2⟩
end Go.Proofs.YtadipinnbehhhaaGreatDoor
