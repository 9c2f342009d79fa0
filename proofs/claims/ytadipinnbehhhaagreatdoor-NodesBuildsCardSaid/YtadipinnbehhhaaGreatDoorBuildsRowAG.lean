/- Writers as states: what a writer is in memory, with the records that it holds; flush. A writer: flush: the records in memory become a block of the file. A writer: Put. A writer: Close, Drop, Count; a tape is begun. -/
import Derived.Deep.RegionHeld3
import Derived.StillTailTactics
import Derived.Defers
import Derived.Test.YtadipinnbehhhaaGreatDoorBuildsRowAF
namespace Go.Proofs.YtadipinnbehhhaaGreatDoor
open Go.RowKit

structure WSt where
  name : ByteArray
  kind : Nat
  dead : Int
  done : Bool
  place : Nat
  count : Nat
  list : List R4

/-- Beside the frame, the errors and the tables. -/
def Off (E : Nat → Addr) (G : Nat → Prop) (g : Nat) : Prop := ¬ G g ∧ (∀ i, i < 9 → errVar i ≠ g ∧ (E i).block ≠ g) ∧ g ≠ 11 ∧ g ≠ 9

/-- The records that a writer holds, in memory of its own. -/
structure ListAt (w : World) (G : Nat → Prop) (E : Nat → Addr) (v : Value) (l : List R4) : Prop where
  own : w.ownsRow 0 111 4 v l.length (rcCells l)
  off : ∀ g, v.ownBlock = some g → Off E G g
  oks : ∀ r ∈ l, r.Ok

/-- The blocks of a writer: the room's, its own, its records'. -/
def WF (G : Nat → Prop) (b : Nat) (v : Value) : Nat → Prop := fun x => (G x ∨ x = b) ∨ v.ownBlock = some x

theorem Off.new {E : Nat → Addr} {w : World} {G : Nat → Prop} {g : Nat} (h : Envs E w G) (hG : ∀ b, G b → b < w.heap.size) (hg : w.heap.size ≤ g) : Off E G g := by
  refine ⟨fun hb => by have := hG g hb; omega, fun i hi => ⟨fun e => ?_, fun e => ?_⟩, fun e => ?_, fun e => ?_⟩
  · have := h.errs.errs.old i hi; omega
  · obtain ⟨cs, t, hb⟩ := h.errs.errs.blk i hi
    have := lt_of_heap hb
    omega
  · have := cell_lt (h.halves 0 (by decide)); simp only at this; omega
  · have := cell_lt (h.magic 0 83 rfl); simp only at this; omega
theorem Off.step {E : Nat → Addr} {w w' : World} {G G' : Nat → Prop} {g : Nat} (h : Off E G g) (hg : g < w.heap.size) (s : Stp w G w' G') : Off E G' g := ⟨s.off hg h.1, h.2⟩

theorem rcCells_len (l : List R4) : (rcCells l).length = 4 * l.length := by
  induction l with
  | nil => rfl
  | cons r l ih =>
    have : rcCells (r :: l) = (r.ws.map fun (x : Nat) => Value.int .u64 x) ++ rcCells l := rfl
    rw [this, List.length_append, ih]
    simp [R4.ws]; omega
theorem rcCells_take : ∀ (l : List R4) (m : Nat), (rcCells l).take (m * 4) = rcCells (l.take m)
  | [], m => by simp [rcCells]
  | r :: l, 0 => by simp [rcCells]
  | r :: l, m + 1 => by
    have e : rcCells (r :: l) = (r.ws.map fun (x : Nat) => Value.int .u64 x) ++ rcCells l := rfl
    rw [e, List.take_succ_cons, show (m + 1) * 4 = (r.ws.map fun (x : Nat) => Value.int .u64 (x : Int)).length + m * 4 by simp [R4.ws]; omega, List.take_length_add_append, rcCells_take l m]
    rfl
theorem rcCells_app (a b : List R4) : rcCells (a ++ b) = rcCells a ++ rcCells b := by simp [rcCells]

/-- A row of one's own, cut. -/
theorem own_cut {w : World} {base : Nat} {e : TypeId} {size n m c : Nat} {a : Addr} {xs : List Value} (h : w.ownsRow base e size (.slice (some a) n c) n xs) (hm : m ≤ n) : w.ownsRow base e size (.slice (some a) m c) m (xs.take (m * size)) := by
  obtain ⟨hl, ⟨hv, _⟩ | ⟨g, cap, cur, hv, hb, hh, hle, hmx, hs, ht⟩⟩ := h
  · cases hv
  · injection hv with e1 _ e2
    subst e2
    have hms : m * size ≤ n * size := Nat.mul_le_mul_right _ hm
    refine ⟨by rw [List.length_take, hl]; omega, .inr ⟨g, c, cur, by rw [e1], hb, hh, by omega, hmx, hs, ?_⟩⟩
    rw [← ht, List.take_take, Nat.min_eq_left hms]

section
variable {w w' : World} {G G' H : Nat → Prop} {E : Nat → Addr} {v : Value} {l : List R4}
theorem ListAt.keep (h : ListAt w G E v l) (k : Keep H w w') (hn : ∀ g, v.ownBlock = some g → ¬ H g) : ListAt w' G E v l := ⟨own_keep h.own k hn, h.off, h.oks⟩
theorem ListAt.step (h : ListAt w G E v l) (s : Stp w G w' G') : ListAt w' G' E v l :=
  ⟨own_keep h.own s.keep (fun g hg => (h.off g hg).1), fun g hg => (h.off g hg).step (h.own.lt g hg).2 s, h.oks⟩
theorem ListAt.cut {a : Addr} {n c m : Nat} (h : ListAt w G E (.slice (some a) n c) l) (hn : n = l.length) (hm : m ≤ n) : ListAt w G E (.slice (some a) m c) (l.take m) := by
  subst hn
  refine ⟨?_, fun g hg => h.off g hg, fun r hr => h.oks r (List.mem_of_mem_take hr)⟩
  have := own_cut h.own hm
  rw [rcCells_take] at this
  rw [List.length_take, Nat.min_eq_left hm]
  exact this
theorem ListAt.form (h : ListAt w G E v l) (hl : 1 ≤ l.length) : ∃ g cap, v = .slice (some ⟨g, 0, none⟩) l.length cap ∧ l.length ≤ cap := by
  rcases h.own.2 with ⟨_, h0⟩ | ⟨g, cap, cur, e, hb, hh, hle, _⟩
  · omega
  · exact ⟨g, cap, e, hle⟩
theorem ListAt.nil (w : World) (G : Nat → Prop) (E : Nat → Addr) : ListAt w G E (.slice none 0 0) [] := ⟨World.ownsRow_nil _ _ _ _, fun g hg => by simp [Value.ownBlock] at hg, fun r hr => by simp at hr⟩
end

/-- A writer over a room. -/
structure WrtAt (c : Cx) (w : World) (b : Nat) (G : Nat → Prop) (s : RSt) (x : WSt) : Prop where mk ::
  out : ∃ G0 v, G = WF G0 b v ∧ RmAt c w G0 s ∧ Blk w b 248 (wrCells c.k x.name x.kind v x.dead x.done x.place x.count) ∧ Off c.E G0 b ∧ ListAt w (fun y => G0 y ∨ y = b) c.E v x.list
  kind : 1 ≤ x.kind ∧ x.kind ≤ 255
  len : x.list.length ≤ c.K
  dead : x.dead = 0 ∨ kills x.dead = true

def WrtTo (c : Cx) (b : Nat) (G : Nat → Prop) (s' : RSt) (x' : WSt) (w w' : World) : Prop := ∃ G', WrtAt c w' b G' s' x' ∧ Stp w G w' G'

section
variable {c : Cx} {w w' w2 w0 : World} {b : Nat} {G G' : Nat → Prop} {s s' s2 : RSt} {x x' x2 : WSt}
theorem WrtAt.env (h : WrtAt c w b G s x) : Envs c.E w G := by
  obtain ⟨G0, v, rfl, hr, hb, nb, hl⟩ := h.out
  have e := hr.env
  refine ⟨⟨e.errs.errs, fun i hi hf => ?_, fun i hi hf => ?_⟩, e.halves, e.magic, fun hf => ?_, fun hf => ?_⟩
  · rcases hf with (hf | hf) | hf
    · exact e.errs.nv i hi hf
    · exact (nb.2.1 i hi).1 hf
    · exact ((hl.off _ hf).2.1 i hi).1 rfl
  · rcases hf with (hf | hf) | hf
    · exact e.errs.nb i hi hf
    · exact (nb.2.1 i hi).2 hf
    · exact ((hl.off _ hf).2.1 i hi).2 rfl
  · rcases hf with (hf | hf) | hf
    · exact e.nh hf
    · exact nb.2.2.1 hf.symm
    · exact (hl.off _ hf).2.2.1 rfl
  · rcases hf with (hf | hf) | hf
    · exact e.nm hf
    · exact nb.2.2.2 hf.symm
    · exact (hl.off _ hf).2.2.2 rfl
theorem WrtAt.lt (h : WrtAt c w b G s x) (y : Nat) (hy : G y) : y < w.heap.size := by
  obtain ⟨G0, v, rfl, hr, hb, nb, hl⟩ := h.out
  rcases hy with (hy | hy) | hy
  · exact hr.lt y hy
  · rw [hy]; exact hb.lt
  · exact (hl.own.lt y hy).2
theorem WrtTo.refl (h : WrtAt c w b G s x) : WrtTo c b G s x w w := ⟨G, h, Stp.refl _ _⟩
theorem WrtTo.then_ (h : WrtTo c b G s' x' w w') (t : ∀ G', WrtAt c w' b G' s' x' → WrtTo c b G' s2 x2 w' w2) : WrtTo c b G s2 x2 w w2 := by
  obtain ⟨G1, h1, s1⟩ := h
  obtain ⟨G2, h2, s2⟩ := t G1 h1
  exact ⟨G2, h2, s1.trans s2⟩
theorem WrtAt.nil (h : WrtAt c w b G s x) (k : Keep Nil w w') : WrtAt c w' b G s x := by
  obtain ⟨G0, v, rfl, hr, hb, nb, hl⟩ := h.out
  exact ⟨⟨G0, v, rfl, hr.nil k, hb.keep k (fun h => h), nb, hl.keep k (fun _ _ h => h)⟩, h.kind, h.len, h.dead⟩
theorem WrtTo.nil (h : WrtTo c b G s' x' w w') (k : Keep Nil w' w2) : WrtTo c b G s' x' w w2 := by
  obtain ⟨G1, h1, s1⟩ := h
  exact ⟨G1, h1.nil k, s1.then_nil k⟩
theorem WrtTo.from_nil (h : WrtTo c b G s' x' w w') (k : Keep Nil w0 w) : WrtTo c b G s' x' w0 w' := by
  obtain ⟨G1, h1, s1⟩ := h
  exact ⟨G1, h1, (Stp.of_nil k _).trans s1⟩
/-- The room turned. -/
theorem WrtAt.at_rm {G0 : Nat → Prop} {v : Value} (h : WrtAt c w b (WF G0 b v) s x) (_hr : RmAt c w G0 s) (hb : Blk w b 248 (wrCells c.k x.name x.kind v x.dead x.done x.place x.count)) (nb : Off c.E G0 b) (hl : ListAt w (fun y => G0 y ∨ y = b) c.E v x.list) (t : RmTo c G0 s' w w') : WrtTo c b (WF G0 b v) s' x w w' := by
  obtain ⟨G1, h1, s1⟩ := t
  have s2 := s1.part (fun y => y = b)
  have s3 := s2.part (fun y => v.ownBlock = some y)
  refine ⟨WF G1 b v, ⟨⟨G1, v, rfl, h1, hb.keep s1.keep nb.1, nb.step hb.lt s1, ?_⟩, h.kind, h.len, h.dead⟩, s3⟩
  refine ⟨own_keep hl.own s1.keep (fun g hg hf => (hl.off g hg).1 (.inl hf)), fun g hg => ?_, hl.oks⟩
  exact (hl.off g hg).step (hl.own.lt g hg).2 s2
/-- The writer's own cells turned, or its records. -/
theorem WrtAt.at_own {G0 : Nat → Prop} {v v' : Value} (hr : RmAt c w G0 s) (nb : Off c.E G0 b) (hlb : b < w.heap.size) (hlv : ∀ g, v.ownBlock = some g → Off c.E (fun y => G0 y ∨ y = b) g)
    (k : Keep (fun y => y = b ∨ v.ownBlock = some y) w w') (hb : Blk w' b 248 (wrCells c.k x'.name x'.kind v' x'.dead x'.done x'.place x'.count)) (hl : w'.ownsRow 0 111 4 v' x'.list.length (rcCells x'.list)) (hrec : ∀ r ∈ x'.list, r.Ok)
    (hv : v'.ownBlock = none ∨ v'.ownBlock = v.ownBlock ∨ ∃ g, v'.ownBlock = some g ∧ w.heap.size ≤ g) (hk : 1 ≤ x'.kind ∧ x'.kind ≤ 255) (hle : x'.list.length ≤ c.K) (hd : x'.dead = 0 ∨ kills x'.dead = true) : WrtTo c b (WF G0 b v) s x' w w' := by
  have hoff : ∀ y, (y = b ∨ v.ownBlock = some y) → Off c.E G0 y := by
    rintro y (rfl | hy)
    · exact nb
    · exact ⟨fun hg => (hlv y hy).1 (.inl hg), (hlv y hy).2⟩
  have hr' : RmAt c w' G0 s := hr.keep k (fun y hy hf => (hoff y hf).1 hy)
    ⟨⟨hr.env.errs.errs, fun i hi hf => ((hoff _ hf).2.1 i hi).1 rfl, fun i hi hf => ((hoff _ hf).2.1 i hi).2 rfl⟩, hr.env.halves, hr.env.magic, fun hf => (hoff _ hf).2.2.1 rfl, fun hf => (hoff _ hf).2.2.2 rfl⟩
  have hG : ∀ y, (G0 y ∨ y = b) → y < w.heap.size := fun y hy => hy.elim (hr.lt y) (fun e => by rw [e]; exact hlb)
  have henv : Envs c.E w (fun y => G0 y ∨ y = b) :=
    ⟨⟨hr.env.errs.errs, fun i hi hf => hf.elim (hr.env.errs.nv i hi) (nb.2.1 i hi).1, fun i hi hf => hf.elim (hr.env.errs.nb i hi) (nb.2.1 i hi).2⟩, hr.env.halves, hr.env.magic, fun hf => hf.elim hr.env.nh (fun e => nb.2.2.1 e.symm), fun hf => hf.elim hr.env.nm (fun e => nb.2.2.2 e.symm)⟩
  refine ⟨WF G0 b v', ⟨⟨G0, v', rfl, hr', hb, nb, hl, fun g hg => ?_, hrec⟩, hk, hle, hd⟩, ⟨k.mono (fun y _ hy => ?_), fun y hy => ?_⟩⟩
  · rcases hv with h0 | h0 | ⟨g', h0, hg'⟩
    · rw [h0] at hg; cases hg
    · exact hlv g (by rw [← h0]; exact hg)
    · rw [h0] at hg
      injection hg with hg
      subst hg
      exact Off.new henv hG hg'
  · exact hy.elim (fun e => .inl (.inr e)) .inr
  · rcases hy with hy | hy
    · exact .inl (.inl hy)
    · rcases hv with h0 | h0 | ⟨g', h0, hg'⟩
      · rw [h0] at hy; cases hy
      · exact .inl (.inr (by rw [← h0]; exact hy))
      · rw [h0] at hy
        injection hy with hy
        subst hy
        exact .inr hg'
end

/-- A number of the writer's turned. -/
theorem WrtAt.recell {c : Cx} {w w' : World} {b : Nat} {G : Nat → Prop} {s : RSt} {x x' : WSt} (h : WrtAt c w b G s x) (k : Keep (fun y => y = b) w w')
    (hcs : ∀ v, Blk w b 248 (wrCells c.k x.name x.kind v x.dead x.done x.place x.count) → Blk w' b 248 (wrCells c.k x'.name x'.kind v x'.dead x'.done x'.place x'.count))
    (hl' : x'.list = x.list) (hk : 1 ≤ x'.kind ∧ x'.kind ≤ 255) (hd : x'.dead = 0 ∨ kills x'.dead = true) : WrtTo c b G s x' w w' := by
  obtain ⟨G0, v, rfl, hr, hb, nb, hl⟩ := h.out
  refine WrtAt.at_own hr nb hb.lt hl.off (k.mono (fun y _ e => .inl e)) (hcs v hb) ?_ (by rw [hl']; exact hl.oks) (.inr (.inl rfl)) hk (by rw [hl']; exact h.len) hd
  rw [hl']
  exact own_keep hl.own k (fun g hg e => (hl.off g hg).1 (.inr e))

theorem RmAt.desk {c : Cx} {w : World} {G : Nat → Prop} {s : RSt} (h : RmAt c w G s) : Blk w c.k 242 #[.pointer (some ⟨c.d, 0, none⟩), .pointer (some ⟨c.p, 0, none⟩), .int .i64 c.K, .int .i64 s.next] := by
  obtain ⟨F, _, hd⟩ := h.out
  exact hd.desk

theorem blk_bytes {w : World} {g : Nat} {bs : List Int} (h : Blk w g 5 (by8 bs).toArray) : BytesAt w ⟨g, 0, none⟩ bs := by
  refine ⟨fun j u hu => ⟨_, rfl, ?_⟩, _, _, h⟩
  have := h.at_ j
  rw [List.getElem?_toArray, hu] at this
  by_cases h0 : j = 0
  · subst h0; simpa [Addr.add] using this
  · simpa [Addr.add, h0] using this
theorem encB_len {kind : Int} {place block : Nat} {l : List R4} (h : 32 * l.length + 32 ≤ block) : (encB kind place l block).length = block := by
  unfold encB
  rw [List.length_append, encBody_len h, loB_len]; omega
theorem encB_range {kind : Int} {place block : Nat} {l : List R4} (hk : 1 ≤ kind ∧ kind ≤ 255) : ∀ x ∈ encB kind place l block, 0 ≤ x ∧ x ≤ 255 := by
  intro x hx
  rcases List.mem_append.1 hx with hx | hx
  · exact encBody_range hk x hx
  · exact loB_range _ _ x hx

/-- Append, in the room's words. -/
theorem append_rm {c : Cx} {w : World} {G : Nat → Prop} {s : RSt} (h : RmAt c w G s) (name : ByteArray) (a : Addr) (n cap : Nat) (bs : List Int) (hbs : BytesAt w a bs) (hn : bs.length = n) (hlc : n ≤ cap) (h8 : ∀ x ∈ bs, 0 ≤ x ∧ x ≤ 255) :
    Calls Tryz.prog 237 #[.pointer (some ⟨c.d, 0, none⟩), .string name, .slice (some a) n cap] w fun e w' => e = .returned (.int .i64 (s.D.append_ name bs).2) ∧ RmTo c G { s with D := (s.D.append_ name bs).1 } w w' := by
  subst hn
  obtain ⟨F, rfl, hd⟩ := h.out
  obtain ⟨R, hD⟩ := hd.disk
  exact (append_any c.d s.D R F c.E name a cap bs w hD hd.envd hbs hlc h8).mono fun _ _ ⟨he, ht⟩ => ⟨he, h.step (hd.at_disk ht) (append_block _ _ _)⟩
theorem block_rm {c : Cx} {w : World} {G : Nat → Prop} {s : RSt} (h : RmAt c w G s) :
    Calls Tryz.prog 123 #[.pointer (some ⟨c.d, 0, none⟩)] w fun e w' => e = .returned (.int .i64 c.block) ∧ w' = w := by
  obtain ⟨F, rfl, hd⟩ := h.out
  obtain ⟨R, hD⟩ := hd.disk
  have := block_any c.d s.D R F w hD
  rwa [h.blk] at this
end Go.Proofs.YtadipinnbehhhaaGreatDoor
namespace Go.Proofs.YtadipinnbehhhaaGreatDoor
open Go.RowKit

/-- What flush comes to. -/
def wflush (c : Cx) (s : RSt) (x : WSt) : Int × RSt × WSt :=
  if (s.D.append_ x.name (encB x.kind x.place x.list c.block)).2 = 0 then (0, { s with D := (s.D.append_ x.name (encB x.kind x.place x.list c.block)).1 }, { x with place := x.place + 1, list := [] })
  else ((s.D.append_ x.name (encB x.kind x.place x.list c.block)).2, { s with D := (s.D.append_ x.name (encB x.kind x.place x.list c.block)).1 }, x)

theorem fit_of {c : Cx} (h : fit c.block = c.K) (hK : 0 < c.K) : 64 ≤ c.block ∧ c.block ≤ 65536 ∧ c.block % 32 = 0 ∧ 32 * c.K + 32 = c.block := by
  unfold fit at h
  split at h
  · omega
  · omega

/-- What stands of a call on a writer. -/
def WPost (c : Cx) (b : Nat) (G : Nat → Prop) (w : World) (q : Int × RSt × WSt) (e : Ending) (w' : World) : Prop := e = .returned (.int .i64 q.1) ∧ WrtTo c b G q.2.1 q.2.2 w w'

set_option maxRecDepth 100000 in
set_option maxHeartbeats 4000000 in
theorem flush_any (c : Cx) (w : World) (b : Nat) (G : Nat → Prop) (s : RSt) (x : WSt) (h : WrtAt c w b G s x) (hl : 1 ≤ x.list.length) (hp : x.place < 4611686018427387904) :
    Calls Tryz.prog 192 #[.pointer (some ⟨b, 0, none⟩)] w (WPost c b G w (wflush c s x)) := by
  obtain ⟨G0, v, rfl, hr, hb, nb, hlist⟩ := h.out
  obtain ⟨f1, f2, f3, f4⟩ := fit_of hr.fitK hr.posK
  have hkind := h.kind
  have hlen := h.len
  obtain ⟨g, cap, hv, hcap, _, hcell⟩ : ∃ g cap, v = .slice (some ⟨g, 0, none⟩) x.list.length cap ∧ x.list.length ≤ cap ∧ 0 ≤ g ∧ ∀ (j : Nat) (u : Value), (rcCells x.list)[j]? = some u → w.drew.cell? ⟨g, 0 + j, none⟩ = some u := by
    rcases hlist.own.2 with ⟨_, h0⟩ | ⟨g, cap, cur, e, hb, hh, hle, _⟩
    · omega
    · refine ⟨g, cap, e, hle, Nat.zero_le _, fun j u hu => ?_⟩
      have ho := hlist.own
      rw [e] at ho
      obtain ⟨ad, e2, hc⟩ := own_rd ho j u hu
      injection e2 with e2
      subst e2
      by_cases h0 : j = 0
      · subst h0; simpa [Addr.add] using hc
      · simpa [Addr.add, h0] using hc
  subst hv
  have hblock : Calls Tryz.prog 123 #[.pointer (some ⟨c.d, 0, none⟩)] w.drew fun e w' => e = .returned (.int .i64 c.block) ∧ w' = w.drew := block_rm (hr.nil ((Keep.refl Nil w).drew))
  have henc := encode_good x.kind x.place c.block g 0 cap x.list w.drew hkind (by omega) ⟨f1, f2, f3⟩ hl (by omega) hcell hlist.oks (hr.env.halves.keep ((Keep.refl Nil w).drew) (fun h => h)) (hr.env.magic.keep ((Keep.refl Nil w).drew) (fun h => h))
  have c0 : w.cell? ⟨b, 0, none⟩ = some (.pointer (some ⟨c.k, 0, none⟩)) := hb.at_ 0
  have c1 : w.cell? ⟨b, 1, none⟩ = some (.string x.name) := hb.at_ 1
  have c2 : w.cell? ⟨b, 2, none⟩ = some (.int .i64 x.kind) := hb.at_ 2
  have c3 : w.cell? ⟨b, 3, none⟩ = some (.slice (some ⟨g, 0, none⟩) x.list.length cap) := hb.at_ 3
  have c6 : w.cell? ⟨b, 6, none⟩ = some (.int .i64 x.place) := hb.at_ 6
  have d0 : w.cell? ⟨c.k, 0, none⟩ = some (.pointer (some ⟨c.d, 0, none⟩)) := hr.desk.at_ 0
  have HENC := Hid.intro_ henc
  have HC := Hid.intro_ hcell
  have hbl := encB_len (kind := (x.kind : Int)) (place := x.place) (block := c.block) (l := x.list) (by omega)
  have hbr := encB_range (place := x.place) (block := c.block) (l := x.list) (kind := (x.kind : Int)) (by omega)
  have HX := Hid.intro_ h
  clear henc hcell
  unfold wflush
  generalize hbs : encB x.kind x.place x.list c.block = bs at *
  clear hbs
  obtain ⟨q, hq⟩ : ∃ q, q = s.D.append_ x.name bs := ⟨_, rfl⟩
  rw [← hq]
  have HQ := Hid.intro_ hq
  have HBL := Hid.intro_ hbl
  clear hq hbl
  have ha : ∀ (w1 : World) (g1 : Nat), Keep Nil w w1 → Blk w1 g1 5 (by8 bs).toArray → Calls Tryz.prog 237 #[.pointer (some ⟨c.d, 0, none⟩), .string x.name, .slice (some ⟨g1, 0, none⟩) c.block c.block] w1 fun e w' => e = .returned (.int .i64 q.2) ∧ Hid (WrtTo c b (WF G0 b (.slice (some ⟨g, 0, none⟩) x.list.length cap)) { s with D := q.1 } x w w') := fun w1 g1 k1 hb1 => by
    have hr1 := hr.nil k1
    have := append_rm hr1 x.name ⟨g1, 0, none⟩ c.block c.block bs (blk_bytes hb1) HBL.out (Nat.le_refl _) hbr
    rw [← HQ.out] at this
    exact this.mono fun e w' ⟨he, ht⟩ => ⟨he, Hid.intro_ (((HX.out.nil k1).at_rm hr1 (hb.keep k1 (fun h => h)) nb (hlist.keep k1 (fun _ _ h => h)) ht).from_nil k1)⟩
  have HA := Hid.intro_ ha
  clear ha
  obtain ⟨Gw, hGw⟩ : ∃ G, G = WF G0 b (.slice (some ⟨g, 0, none⟩) x.list.length cap) := ⟨_, rfl⟩
  rw [← hGw] at HA ⊢
  clear hGw
  by_cases hz : q.2 = 0
  all_goals
    first | rw [if_pos hz] | rw [if_neg hz]
    have hz1 : (q.2 != 0) = !decide (q.2 = 0) := by by_cases h : q.2 = 0 <;> simp [h]
    first | rw [decide_eq_true hz, Bool.not_true] at hz1 | rw [decide_eq_false hz, Bool.not_false] at hz1
    have HZ := Hid.intro_ hz
    clear hz
    go_enter Tryz.func192, Tryz.ntmps192
    go_wp2
    go_region_held3 (fun w' => w'.cell? ⟨b, 0, none⟩ = some (.pointer (some ⟨c.k, 0, none⟩)) ∧ w'.cell? ⟨b, 2, none⟩ = some (.int .i64 x.kind) ∧ w'.cell? ⟨b, 3, none⟩ = some (.slice (some ⟨g, 0, none⟩) x.list.length cap) ∧ w'.cell? ⟨b, 6, none⟩ = some (.int .i64 x.place) ∧ w'.cell? ⟨c.k, 0, none⟩ = some (.pointer (some ⟨c.d, 0, none⟩)))
      (first | exact ⟨c0, c2, c3, c6, d0⟩ | exact ⟨cell_keep (w := w.drew) c0 k1 (fun h => h), cell_keep (w := w.drew) c2 k1 (fun h => h), cell_keep (w := w.drew) c3 k1 (fun h => h), cell_keep (w := w.drew) c6 k1 (fun h => h), cell_keep (w := w.drew) d0 k1 (fun h => h)⟩)
      (first
        | (go_at_call 123; refine hblock.mono ?_; rintro e w' ⟨rfl, hw⟩; obtain rfl := hw.symm)
        | (go_at_call 236; refine HENC.out.mono ?_; rintro e w1 ⟨g1, rfl, hg1, hB1, k1⟩))
    have k2 : Keep Nil w w1 := ((Keep.refl Nil w).drew).then_ k1
    have e0 := cell_keep c0 k2 (fun h => h)
    have e1 := cell_keep c1 k2 (fun h => h)
    have m0 := cell_keep d0 k2 (fun h => h)
    go_wp2_with fail
    go_still_tail 14, (by kernel_rfl)
    change wpList _ _ _ _ _ w1.drew
    go_wp2_with fail
    refine (HA.out w1.drew g1 k2.drew hB1).mono ?_
    rintro e w2 ⟨rfl, HW⟩
  · obtain ⟨G1, h1, s1⟩ := HW.out
    obtain ⟨G2, v2, rfl, hr2, hb2, nb2, hl2⟩ := h1.out
    obtain ⟨g2, cap2, rfl, hcap2⟩ := hl2.form hl
    have y6 : w2.cell? ⟨b, 6, none⟩ = some (.int .i64 x.place) := hb2.at_ 6
    have y3 : w2.cell? ⟨b, 3, none⟩ = some (.slice (some ⟨g2, 0, none⟩) x.list.length cap2) := hb2.at_ 3
    have z6 := hb2.fr 6
    have z3 := hb2.fr 3
    have hfin : WrtTo c b (WF G2 b (.slice (some ⟨g2, 0, none⟩) x.list.length cap2)) { s with D := q.1 } { x with place := x.place + 1, list := [] } w2 ((w2.setCell ⟨b, 6, none⟩ (.int .i64 (x.place + 1))).setCell ⟨b, 3, none⟩ (.slice (some ⟨g2, 0, none⟩) 0 cap2)) :=
      WrtAt.at_own hr2 nb2 hb2.lt hl2.off (((Keep.refl (fun y => y = b ∨ Value.ownBlock (.slice (some ⟨g2, 0, none⟩) x.list.length cap2) = some y) w2).setCell (p := ⟨b, 6, none⟩) (fun _ => .inl rfl) _).setCell (p := ⟨b, 3, none⟩) (fun _ => .inl rfl) _)
        ((hb2.set_ 6 _).set_ 3 _) (own_keep (own_cut hl2.own (Nat.zero_le _)) (((Keep.refl (fun y => y = b) w2).setCell (p := ⟨b, 6, none⟩) (fun _ => rfl) _).setCell (p := ⟨b, 3, none⟩) (fun _ => rfl) _) (fun g' hg' e => (hl2.off g' hg').1 (.inr e)))
        (fun r hr => by simp at hr) (.inr (.inl rfl)) h1.kind (Nat.zero_le _) h1.dead
    have HF := Hid.intro_ hfin
    have S1 := Hid.intro_ s1
    clear hfin s1
    go_wp2
    go_ret
    refine ⟨rfl, ?_⟩
    obtain ⟨G3, h3, s3⟩ := HF.out
    exact ⟨G3, h3, S1.out.trans s3⟩
  · go_wp2
    go_ret
    exact ⟨rfl, HW.out⟩
end Go.Proofs.YtadipinnbehhhaaGreatDoor
namespace Go.Proofs.YtadipinnbehhhaaGreatDoor
open Go.RowKit

theorem info_rec : (Tryz.prog.info? 111).map (fun i => (i.zero, i.size, i.bytes)) = some (some (.agg #[.int .u64 0, .int .u64 0, .int .u64 0, .int .u64 0]), 4, 32) := by kernel_rfl

theorem news_new {w : World} {t : TypeId} {cs : List Value} {n : Nat} (hn : w.heap.size = n) : ∀ (j : Nat) (u : Value), cs[j]? = some u → (w.alloc (.cells cs.toArray t)).cell? (Addr.add ⟨n, 0, none⟩ j) = some u := by
  intro j u hu
  subst hn
  have := (Blk.new w t cs.toArray).at_ j
  rw [List.getElem?_toArray, hu] at this
  by_cases h0 : j = 0
  · subst h0; simpa [Addr.add] using this
  · simpa [Addr.add, h0] using this

def R4.val (r : R4) : Value := .agg #[.int .u64 r.a, .int .u64 r.b, .int .u64 r.c, .int .u64 r.d]

/-- What Put comes to. -/
def wput (c : Cx) (s : RSt) (x : WSt) (r : R4) : Int × RSt × WSt :=
  if ¬ stSt x.done x.dead = 0 then (stSt x.done x.dead, s, x)
  else if ¬ x.list.length + 1 = c.K then (0, s, { x with list := x.list ++ [r], count := x.count + 1 })
  else if (wflush c s { x with list := x.list ++ [r] }).1 = 0 then (0, (wflush c s { x with list := x.list ++ [r] }).2.1, { (wflush c s { x with list := x.list ++ [r] }).2.2 with count := x.count + 1 })
  else ((wflush c s { x with list := x.list ++ [r] }).1, (wflush c s { x with list := x.list ++ [r] }).2.1, { x with dead := if kills (wflush c s { x with list := x.list ++ [r] }).1 = true then (wflush c s { x with list := x.list ++ [r] }).1 else x.dead })

theorem wflush_ok {c : Cx} {s : RSt} {x : WSt} (h : (wflush c s x).1 = 0) : (wflush c s x).2.2 = { x with place := x.place + 1, list := [] } := by
  unfold wflush at h ⊢
  split
  · rfl
  · rename_i h2
    rw [if_neg h2] at h
    exact (h2 h).elim
theorem wflush_bad {c : Cx} {s : RSt} {x : WSt} (h : ¬ (wflush c s x).1 = 0) : (wflush c s x).2.2 = x := by
  unfold wflush at h ⊢
  split
  · rename_i h2
    rw [if_pos h2] at h
    exact (h rfl).elim
  · rfl

/-- The record stands in memory. -/
def WPutMid (c : Cx) (b : Nat) (G : Nat → Prop) (s : RSt) (x : WSt) (w w' : World) : Prop := WrtTo c b G s x w w'

theorem put_mid {c : Cx} {w w2 w3 : World} {b : Nat} {G0 : Nat → Prop} {s : RSt} {x : WSt} {r : R4} {v av : Value} (h : WrtAt c w b (WF G0 b v) s x) (hr : RmAt c w G0 s) (hb : Blk w b 248 (wrCells c.k x.name x.kind v x.dead x.done x.place x.count)) (nb : Off c.E G0 b) (hl : ListAt w (fun y => G0 y ∨ y = b) c.E v x.list) (hro : r.Ok) (hlen : x.list.length + 1 ≤ c.K)
    (k2 : Keep Nil w w2) (ho : w3.ownsRow 0 111 4 av (x.list.length + 1) (rcCells x.list ++ [.int .u64 r.a, .int .u64 r.b, .int .u64 r.c, .int .u64 r.d])) (k3 : Keep (fun y => v.ownBlock = some y) w2 w3) (hv : av.ownBlock = v.ownBlock ∨ av.ownBlock = some w2.heap.size) :
    WrtTo c b (WF G0 b v) s { x with list := x.list ++ [r] } w (w3.setCell ⟨b, 3, none⟩ av) := by
  have kw3 : Keep (fun y => v.ownBlock = some y) w w3 := (k2.mono (fun _ _ h => h.elim)).then_ k3
  have nbv : ¬ v.ownBlock = some b := fun e => (hl.off b e).1 (.inr rfl)
  have kk : Keep (fun y => y = b ∨ v.ownBlock = some y) w (w3.setCell ⟨b, 3, none⟩ av) := (kw3.mono (fun _ _ h => .inr h)).setCell (p := ⟨b, 3, none⟩) (fun _ => .inl rfl) _
  have nbav : ¬ av.ownBlock = some b := by
    rcases hv with e | e
    · rw [e]; exact nbv
    · rw [e]; intro e2; injection e2 with e2; have := hb.lt; have := k2.size; omega
  refine WrtAt.at_own (x' := { x with list := x.list ++ [r] }) hr nb hb.lt hl.off kk ((hb.keep kw3 nbv).set_ 3 av) ?_ (fun q hq => ?_) ?_ h.kind (by simpa using hlen) h.dead
  · have : w3.ownsRow 0 111 4 av (x.list ++ [r]).length (rcCells (x.list ++ [r])) := by rw [List.length_append, rcCells_app]; exact ho
    exact own_keep this ((Keep.refl (fun y => y = b) w3).setCell (p := ⟨b, 3, none⟩) (fun _ => rfl) _) (fun g hg e => nbav (by rw [← show g = b from e]; exact hg))
  · rcases List.mem_append.1 hq with hq | hq
    · exact hl.oks q hq
    · rw [List.mem_singleton.1 hq]; exact hro
  · rcases hv with e | e
    · exact .inr (.inl e)
    · exact .inr (.inr ⟨_, e, k2.size⟩)

set_option maxRecDepth 100000 in
set_option maxHeartbeats 4000000 in
theorem put_shut (c : Cx) (w : World) (b : Nat) (G : Nat → Prop) (s : RSt) (x : WSt) (r : R4) (h : WrtAt c w b G s x) (hd : ¬ stSt x.done x.dead = 0) :
    Calls Tryz.prog 135 #[.pointer (some ⟨b, 0, none⟩), r.val] w (WPost c b G w (wput c s x r)) := by
  obtain ⟨G0, v, rfl, hr, hb, nb, hlist⟩ := h.out
  have k0 := (Keep.refl Nil w).alloc (.cells #[.int .u64 r.a, .int .u64 r.b, .int .u64 r.c, .int .u64 r.d] 111)
  have b1 := hb.keep k0 (fun h => h)
  have hs := state_any b c.k x.dead x.done _ (b1.at_ 0) (b1.at_ 4) (b1.at_ 5)
  have HX := Hid.intro_ (show wput c s x r = (stSt x.done x.dead, s, x) by unfold wput; rw [if_pos hd])
  have hq : (stSt x.done x.dead != 0) = true := by simpa using hd
  have HS := Hid.intro_ hs
  have HD := Hid.intro_ hd
  unfold R4.val
  generalize stSt x.done x.dead = st at *
  clear hs b1 hd
  go_enter Tryz.func135, Tryz.ntmps135
  go_wp2_with (go_at_call 149; refine HS.out.mono ?_; rintro e w' ⟨rfl, hw⟩; obtain rfl := hw.symm)
  go_ret
  rw [HX.out]
  exact ⟨rfl, (WrtTo.refl h).nil k0⟩

set_option maxRecDepth 100000 in
set_option maxHeartbeats 4000000 in
theorem put_open (c : Cx) (w : World) (b : Nat) (G : Nat → Prop) (s : RSt) (x : WSt) (r : R4) (h : WrtAt c w b G s x) (hd : stSt x.done x.dead = 0) (hlen : x.list.length < c.K) (hro : r.Ok) (hp : x.place < 4611686018427387904) (hcn : x.count < 4611686018427387904) :
    Calls Tryz.prog 135 #[.pointer (some ⟨b, 0, none⟩), r.val] w (WPost c b G w (wput c s x r)) := by
  obtain ⟨G0, v, rfl, hr, hb, nb, hlist⟩ := h.out
  obtain ⟨f1, f2, f3, f4⟩ := fit_of hr.fitK hr.posK
  have k0 := (Keep.refl Nil w).alloc (.cells #[.int .u64 r.a, .int .u64 r.b, .int .u64 r.c, .int .u64 r.d] 111)
  have b1 := hb.keep k0 (fun h => h)
  have hs := state_any b c.k x.dead x.done _ (b1.at_ 0) (b1.at_ 4) (b1.at_ 5)
  rw [hd] at hs
  have HS := Hid.intro_ hs
  have HD := Hid.intro_ hd
  have HB := Hid.intro_ hb
  have HL := Hid.intro_ hlist.own
  have HH := Hid.intro_ h
  obtain ⟨i0, hi0, hz0, hz1, hz2⟩ := info_parts info_rec
  have c3 : w.cell? ⟨b, 3, none⟩ = some v := hb.at_ 3
  have hvo : v.oneCell' = true := by rcases hlist.own.2 with ⟨e, _⟩ | ⟨_, _, _, e, _⟩ <;> rw [e] <;> rfl
  have nbv : ¬ v.ownBlock = some b := fun e => (hlist.off b e).1 (.inr rfl)
  have lb := hb.lt
  unfold R4.val
  clear hs b1 hd
  go_enter Tryz.func135, Tryz.ntmps135
  go_wp2_with (go_at_call 149; refine HS.out.mono ?_; rintro e w' ⟨rfl, hw⟩; obtain rfl := hw.symm)
  go_cut [] from 14 to 26 (fun wc => WPutMid c b (WF G0 b v) s { x with list := x.list ++ [r] } w wc)
  case first =>
    go_region_law (refine step_append_own rfl (.tmp 19) (.tmp 21) 47 rfl 0 111 i0 (.agg #[.int .u64 0, .int .u64 0, .int .u64 0, .int .u64 0]) 4 32 Tryz.underlying47 hi0 hz0 hz1 hz2 rfl (by decide) v x.list.length (rcCells x.list) (by simp [Act.eval]) (own_keep HL.out ((k0.drew).alloc _) (fun g _ h => h)) ⟨w.heap.size + 1, 0, none⟩ 1 1 [.int .u64 r.a, .int .u64 r.b, .int .u64 r.c, .int .u64 r.d] (by simp [Act.eval]) rfl (news_new (w := (w.alloc (.cells #[.int .u64 r.a, .int .u64 r.b, .int .u64 r.c, .int .u64 r.d] 111)).drew) (by simp)) (by simp [Value.oneCell']) (by unfold maxLen; omega) (by omega) (Nat.zero_le _) ?_; intro av cv w3 ho3 k3 hv3
                   have kk := (k0.drew).alloc (.cells #[.int .u64 r.a, .int .u64 r.b, .int .u64 r.c, .int .u64 r.d] 111)
                   have b3 := (HB.out.keep kk (fun h => h)).keep k3 nbv
                   have x3 : w3.cell? ⟨b, 3, none⟩ = some v := b3.at_ 3
                   have y3 := b3.fr 3)
    all_goals
      go_wp2_with fail
      go_meet
      exact put_mid HH.out hr HB.out nb hlist hro (by omega) kk ho3.out k3 (by simpa using hv3.out)
  case rest =>
    rename_i wc
    obtain ⟨G1, h1, s1⟩ := hcut
    obtain ⟨G2, v2, rfl, hr2, hb2, nb2, hl2⟩ := h1.out
    obtain ⟨g2, cap2, rfl, hcap2⟩ := hl2.form (by simp)
    have e0 : wc.cell? ⟨b, 0, none⟩ = some (.pointer (some ⟨c.k, 0, none⟩)) := hb2.at_ 0
    have e3 : wc.cell? ⟨b, 3, none⟩ = some (.slice (some ⟨g2, 0, none⟩) (x.list ++ [r]).length cap2) := hb2.at_ 3
    have e7 : wc.cell? ⟨b, 7, none⟩ = some (.int .i64 x.count) := hb2.at_ 7
    have z7 := hb2.fr 7
    have m2 : wc.cell? ⟨c.k, 2, none⟩ = some (.int .i64 c.K) := hr2.desk.at_ 2
    have hln : (x.list ++ [r]).length = x.list.length + 1 := by simp
    rw [hln] at e3 hcap2
    have HLN := Hid.intro_ hln
    clear hln
    by_cases hK : x.list.length + 1 = c.K
    · have hq : ((x.list.length : Int) + 1 == (c.K : Int)) = true := by rw [beq_iff_eq]; omega
      have hfl := fun n => flush_any c (wc.drewN n) b _ s { x with list := x.list ++ [r] } (h1.nil ((Keep.refl Nil wc).drewN n)) (by simp) hp
      obtain ⟨q, hqq⟩ : ∃ q, q = wflush c s { x with list := x.list ++ [r] } := ⟨_, rfl⟩
      have hput : wput c s x r = if q.1 = 0 then (0, q.2.1, { q.2.2 with count := x.count + 1 }) else (q.1, q.2.1, { x with dead := if kills q.1 = true then q.1 else x.dead }) := by
        unfold wput
        rw [if_neg (by rw [HD.out]; simp), if_neg (by simpa using hK), hqq]
      by_cases hz : q.1 = 0
      · rw [if_pos hz] at hput
        have HP := Hid.intro_ hput
        have hok := Hid.intro_ (wflush_ok (c := c) (s := s) (x := { x with list := x.list ++ [r] }) (by rw [← hqq]; exact hz))
        rw [← hqq] at hok hfl
        have hz1 : (q.1 != 0) = false := by simp [hz]
        have HZ := Hid.intro_ hz
        have HF := Hid.intro_ hfl
        clear hfl hqq hput hz hK
        go_wp2_with fail
        go_quiet (fail)
        go_wp2_with (go_at_call 192; refine (HF.out _).mono ?_; rintro e w4 ⟨rfl, HW⟩
                     obtain ⟨G4, h4, s4⟩ := HW
                     obtain ⟨G5, v5, rfl, hr5, hb5, nb5, hl5⟩ := h4.out
                     have y7 : w4.cell? ⟨b, 7, none⟩ = some (.int .i64 x.count) := by have := hb5.at_ 7; rw [hok.out] at this; exact this
                     have z7' := hb5.fr 7)
        have S4 := Hid.intro_ s4
        have S1 := Hid.intro_ s1
        clear s4 s1
        go_ret
        rw [HP.out]
        refine ⟨rfl, ?_⟩
        have hfin := WrtAt.recell (x' := { q.2.2 with count := x.count + 1 }) h4 ((Keep.refl (fun y => y = b) w4).setCell (p := ⟨b, 7, none⟩) (fun _ => rfl) (.int .i64 (x.count + 1))) (fun v hb => hb.set_ 7 _) rfl h4.kind h4.dead
        obtain ⟨G6, h6, s6⟩ := hfin
        exact ⟨G6, h6, ((S1.out.then_nil ((Keep.refl Nil _).drewN _)).trans S4.out).trans s6⟩
      · rw [if_neg hz] at hput
        have HP := Hid.intro_ hput
        have hok := Hid.intro_ (wflush_bad (c := c) (s := s) (x := { x with list := x.list ++ [r] }) (by rw [← hqq]; exact hz))
        rw [← hqq] at hok hfl
        have hz1 : (q.1 != 0) = true := by simp [hz]
        have HZ := Hid.intro_ hz
        have HF := Hid.intro_ hfl
        clear hfl hqq hput hz hK
        go_wp2_with fail
        go_quiet (fail)
        go_wp2_with (go_at_call 192; refine (HF.out _).mono ?_; rintro e w4 ⟨rfl, HW⟩
                     obtain ⟨G4, h4, s4⟩ := HW
                     rw [hok.out] at h4
                     obtain ⟨G5, v5, rfl, hr5, hb5, nb5, hl5⟩ := h4.out
                     obtain ⟨g5, cap5, rfl, hcap5⟩ := hl5.form (by simp)
                     have y3 : w4.cell? ⟨b, 3, none⟩ = some (.slice (some ⟨g5, 0, none⟩) (x.list.length + 1) cap5) := by have := hb5.at_ 3; rw [HLN.out] at this; exact this
                     have z3' := hb5.fr 3)
        have HB5 := Hid.intro_ hb5
        have S4 := Hid.intro_ s4
        have S1 := Hid.intro_ s1
        clear s4 s1
        have m1 : IntKind.i64.wrap (x.list.length : Int) = (x.list.length : Int) := IntWalk.i64_in _ (by omega)
        have m3 : 0 ≤ (x.list.length : Int) := by omega
        have m2' : (x.list.length : Int) ≤ cap5 := by have := hcap5; rw [HLN.out] at this; omega
        go_still_tail 17, (by kernel_rfl)
        change wpList _ _ _ _ _ w4.drew
        have x4 : (w4.drew.setCell ⟨b, 3, none⟩ (.slice (some ⟨g5, 0, none⟩) x.list.length cap5)).cell? ⟨b, 4, none⟩ = some (.int .i64 x.dead) := ((HB5.out.drew).set_ 3 _).at_ 4
        have x4f := ((HB5.out.drew).set_ 3 (.slice (some ⟨g5, 0, none⟩) x.list.length cap5)).fr 4
        have hdie := Hid.intro_ (die_any b q.1 _ _ x4 x4f)
        clear x4 x4f m1
        go_wp2_with (go_at_call 194; refine hdie.out.mono ?_; rintro e w6 ⟨rfl, hw6⟩; have HW6 := Hid.intro_ hw6; clear hw6)
        go_ret
        rw [HP.out]
        refine ⟨rfl, ?_⟩
        have hcut5 : WrtTo c b (WF G5 b (.slice (some ⟨g5, 0, none⟩) (x.list ++ [r]).length cap5)) q.2.1 x w4 (w4.drew.setCell ⟨b, 3, none⟩ (.slice (some ⟨g5, 0, none⟩) x.list.length cap5)) := by
          refine WrtAt.at_own hr5 nb5 HB5.out.lt hl5.off ((Keep.refl (fun y => y = b ∨ Value.ownBlock (.slice (some ⟨g5, 0, none⟩) (x.list ++ [r]).length cap5) = some y) w4).drew.setCell (p := ⟨b, 3, none⟩) (fun _ => .inl rfl) _)
            ((HB5.out.drew).set_ 3 _) ?_ (fun p hp => hl5.oks p (List.mem_append_left _ hp)) (.inr (.inl rfl)) h4.kind (by omega) h4.dead
          have := own_cut (m := x.list.length) hl5.own (by simp)
          rw [rcCells_take, List.take_left] at this
          exact own_keep this ((Keep.refl (fun y => y = b) w4).drew.setCell (p := ⟨b, 3, none⟩) (fun _ => rfl) _) (fun g' hg' e => (hl5.off g' hg').1 (.inr e))
        obtain ⟨G6, h6, s6⟩ := hcut5
        have s7 := ((S1.out.then_nil ((Keep.refl Nil _).drewN _)).trans S4.out).trans s6
        rw [HW6.out]
        by_cases hk : kills q.1 = true
        · rw [if_pos hk, if_pos hk]
          obtain ⟨G8, h8, s8⟩ := WrtAt.recell (x' := { x with dead := q.1 }) h6 ((Keep.refl (fun y => y = b) _).setCell (p := ⟨b, 4, none⟩) (fun _ => rfl) (.int .i64 q.1)) (fun v hb => hb.set_ 4 _) rfl h6.kind (.inr hk)
          exact ⟨G8, h8, s7.trans s8⟩
        · rw [if_neg hk, if_neg hk]
          exact ⟨G6, h6, s7⟩
    · have hq : ((x.list.length : Int) + 1 == (c.K : Int)) = false := by rw [beq_eq_false_iff_ne]; omega
      have HP := Hid.intro_ (show wput c s x r = (0, s, { x with list := x.list ++ [r], count := x.count + 1 }) by unfold wput; rw [if_neg (by rw [HD.out]; simp), if_pos hK])
      clear hK
      go_wp2_with fail
      go_quiet (fail)
      go_wp2
      go_ret
      rw [HP.out]
      refine ⟨rfl, ?_⟩
      have hfin := WrtAt.recell (x' := { x with list := x.list ++ [r], count := x.count + 1 }) h1 ((Keep.refl (fun y => y = b) wc).setCell (p := ⟨b, 7, none⟩) (fun _ => rfl) (.int .i64 (x.count + 1))) (fun v hb => hb.set_ 7 _) rfl h1.kind h1.dead
      obtain ⟨G6, h6, s6⟩ := hfin
      exact ⟨G6, h6.nil ((Keep.refl Nil _).drewN _), (s1.trans s6).then_nil ((Keep.refl Nil _).drewN _)⟩
end Go.Proofs.YtadipinnbehhhaaGreatDoor
namespace Go.Proofs.YtadipinnbehhhaaGreatDoor
open Go.RowKit

theorem give_rm {c : Cx} {w : World} {G : Nat → Prop} {s : RSt} (h : RmAt c w G s) (n : Int) :
    Calls Tryz.prog 129 #[.pointer (some ⟨c.p, 0, none⟩), .int .i64 n] w fun e w' => e = .returned (.int .i64 (s.S.gives n)) ∧ RmTo c G { s with S := s.S.give n } w w' := by
  obtain ⟨F, rfl, hd⟩ := h.out
  exact (give_dk n hd).mono fun _ _ ⟨he, ht⟩ => ⟨he, h.step ht rfl⟩
theorem seal_rm {c : Cx} {w : World} {G : Nat → Prop} {s : RSt} (h : RmAt c w G s) (name : ByteArray) :
    Calls Tryz.prog 193 #[.pointer (some ⟨c.d, 0, none⟩), .string name] w fun e w' => e = .returned (.int .i64 (s.D.seal_ name).2) ∧ RmTo c G { s with D := (s.D.seal_ name).1 } w w' := by
  obtain ⟨F, rfl, hd⟩ := h.out
  obtain ⟨R, hD⟩ := hd.disk
  exact (seal_any c.d s.D R F c.E name w hD hd.envd).mono fun _ _ ⟨he, ht⟩ => ⟨he, h.step (hd.at_disk ht) (seal_block _ _)⟩
theorem delete_rm {c : Cx} {w : World} {G : Nat → Prop} {s : RSt} (h : RmAt c w G s) (name : ByteArray) :
    Calls Tryz.prog 151 #[.pointer (some ⟨c.d, 0, none⟩), .string name] w fun e w' => e = .returned (.int .i64 (s.D.delete name).2) ∧ RmTo c G { s with D := (s.D.delete name).1 } w w' := by
  obtain ⟨F, rfl, hd⟩ := h.out
  exact (delete_dk name hd).mono fun _ _ ⟨he, ht⟩ => ⟨he, h.step ht (delete_block _ _)⟩

/-- The room of a writer; where it turns the writer stays. -/
theorem WrtAt.via {c : Cx} {w : World} {b : Nat} {G : Nat → Prop} {s : RSt} {x : WSt} (h : WrtAt c w b G s x) : ∃ G0, RmAt c w G0 s ∧ (∀ y, G0 y → G y) ∧ ∀ s' w', RmTo c G0 s' w w' → WrtTo c b G s' x w w' := by
  obtain ⟨G0, v, rfl, hr, hb, nb, hl⟩ := h.out
  exact ⟨G0, hr, fun y hy => .inl (.inl hy), fun s' w' t => h.at_rm hr hb nb hl t⟩
theorem WrtAt.cells {c : Cx} {w : World} {b : Nat} {G : Nat → Prop} {s : RSt} {x : WSt} (h : WrtAt c w b G s x) : ∃ v, Blk w b 248 (wrCells c.k x.name x.kind v x.dead x.done x.place x.count) ∧ (x.list = [] → ∃ A cap, v = .slice A 0 cap) ∧ (1 ≤ x.list.length → ∃ g cap, v = .slice (some ⟨g, 0, none⟩) x.list.length cap) := by
  obtain ⟨G0, v, rfl, hr, hb, nb, hl⟩ := h.out
  refine ⟨v, hb, fun e => ?_, fun h1 => ?_⟩
  · rcases hl.own.2 with ⟨e2, _⟩ | ⟨g, cap, cur, e2, _⟩
    · exact ⟨_, _, e2⟩
    · rw [e] at e2; exact ⟨_, _, e2⟩
  · obtain ⟨g, cap, e, _⟩ := hl.form h1
    exact ⟨g, cap, e⟩

/-- The stores of 'end'. -/
theorem WrtAt.ended {c : Cx} {w : World} {b : Nat} {G : Nat → Prop} {s : RSt} {x : WSt} (h : WrtAt c w b G s x) : WrtTo c b G s { x with done := true, list := [] } w ((w.setCell ⟨b, 5, none⟩ (.bool true)).setCell ⟨b, 3, none⟩ (.slice none 0 0)) := by
  obtain ⟨G0, v, rfl, hr, hb, nb, hl⟩ := h.out
  exact WrtAt.at_own (x' := { x with done := true, list := [] }) hr nb hb.lt hl.off (((Keep.refl (fun y => y = b ∨ v.ownBlock = some y) w).setCell (p := ⟨b, 5, none⟩) (fun _ => .inl rfl) _).setCell (p := ⟨b, 3, none⟩) (fun _ => .inl rfl) _)
    ((hb.set_ 5 _).set_ 3 _) (World.ownsRow_nil _ _ _ _) (fun r hr => by simp at hr) (.inl rfl) h.kind (Nat.zero_le _) h.dead

/-- What 'end' leaves. -/
def wend (c : Cx) (s : RSt) (x : WSt) : RSt × WSt := ({ s with S := s.S.give c.K }, { x with done := true, list := [] })

set_option maxRecDepth 100000 in
set_option maxHeartbeats 2000000 in
theorem end_d (c : Cx) (w : World) (b : Nat) (G : Nat → Prop) (s : RSt) (x : WSt) (u : FrameMode) (h : WrtAt c w b G s x) :
    CallsD Tryz.prog 150 #[.pointer (some ⟨b, 0, none⟩)] u w fun e u' w' => u' = u ∧ (e = .returned (.tuple #[]) ∧ WrtTo c b G (wend c s x).1 (wend c s x).2 w w') := by
  obtain ⟨v, hb, _⟩ := h.cells
  have x0 : w.cell? ⟨b, 0, none⟩ = some (.pointer (some ⟨c.k, 0, none⟩)) := hb.at_ 0
  have x3 : w.cell? ⟨b, 3, none⟩ = some v := hb.at_ 3
  have x5 : w.cell? ⟨b, 5, none⟩ = some (.bool x.done) := hb.at_ 5
  have y3 := hb.fr 3
  have y5 := hb.fr 5
  obtain ⟨G1, h1, s1⟩ := h.ended
  obtain ⟨v1, hb1, _⟩ := h1.cells
  obtain ⟨G0, hr1, _, hvia⟩ := (h1.nil ((Keep.refl Nil _).drew)).via
  have t0 := Hid.intro_ (show World.cell? _ ⟨b, 0, none⟩ = some (.pointer (some ⟨c.k, 0, none⟩)) from hb1.at_ 0)
  have t1 := Hid.intro_ (show World.cell? _ ⟨c.k, 1, none⟩ = some (.pointer (some ⟨c.p, 0, none⟩)) from hr1.desk.at_ 1)
  have t2 := Hid.intro_ (show World.cell? _ ⟨c.k, 2, none⟩ = some (.int .i64 c.K) from hr1.desk.at_ 2)
  have S1 := Hid.intro_ s1
  clear s1
  go_enter_d Tryz.func150, Tryz.ntmps150
  go_wp2
  generalize (w.setCell ⟨b, 5, none⟩ (.bool true)).setCell ⟨b, 3, none⟩ (.slice none 0 0) = X at *
  have t0' := t0.out
  have t1' := t1.out
  have t2' := t2.out
  go_still_tail 14, (by kernel_rfl)
  change wpList _ _ _ _ _ X.drew
  go_wp2_with fail
  refine (give_rm hr1 c.K).mono ?_
  rintro e w2 ⟨rfl, ht⟩
  go_wp2_with fail
  go_end0
  refine ⟨rfl, ?_⟩
  obtain ⟨G3, h3, s3⟩ := hvia _ _ ht
  exact ⟨G3, h3, (S1.out.then_nil ((Keep.refl Nil _).drew)).trans s3⟩
set_option maxRecDepth 100000 in
set_option maxHeartbeats 2000000 in
theorem end_c (c : Cx) (w : World) (b : Nat) (G : Nat → Prop) (s : RSt) (x : WSt) (h : WrtAt c w b G s x) :
    Calls Tryz.prog 150 #[.pointer (some ⟨b, 0, none⟩)] w fun e w' => (e = .returned (.tuple #[]) ∧ WrtTo c b G (wend c s x).1 (wend c s x).2 w w') := by
  obtain ⟨v, hb, _⟩ := h.cells
  have x0 : w.cell? ⟨b, 0, none⟩ = some (.pointer (some ⟨c.k, 0, none⟩)) := hb.at_ 0
  have x3 : w.cell? ⟨b, 3, none⟩ = some v := hb.at_ 3
  have x5 : w.cell? ⟨b, 5, none⟩ = some (.bool x.done) := hb.at_ 5
  have y3 := hb.fr 3
  have y5 := hb.fr 5
  obtain ⟨G1, h1, s1⟩ := h.ended
  obtain ⟨v1, hb1, _⟩ := h1.cells
  obtain ⟨G0, hr1, _, hvia⟩ := (h1.nil ((Keep.refl Nil _).drew)).via
  have t0 := Hid.intro_ (show World.cell? _ ⟨b, 0, none⟩ = some (.pointer (some ⟨c.k, 0, none⟩)) from hb1.at_ 0)
  have t1 := Hid.intro_ (show World.cell? _ ⟨c.k, 1, none⟩ = some (.pointer (some ⟨c.p, 0, none⟩)) from hr1.desk.at_ 1)
  have t2 := Hid.intro_ (show World.cell? _ ⟨c.k, 2, none⟩ = some (.int .i64 c.K) from hr1.desk.at_ 2)
  have S1 := Hid.intro_ s1
  clear s1
  go_enter Tryz.func150, Tryz.ntmps150
  go_wp2
  generalize (w.setCell ⟨b, 5, none⟩ (.bool true)).setCell ⟨b, 3, none⟩ (.slice none 0 0) = X at *
  have t0' := t0.out
  have t1' := t1.out
  have t2' := t2.out
  go_still_tail 14, (by kernel_rfl)
  change wpList _ _ _ _ _ X.drew
  go_wp2_with fail
  refine (give_rm hr1 c.K).mono ?_
  rintro e w2 ⟨rfl, ht⟩
  go_wp2_with fail
  go_end0
  refine ⟨rfl, ?_⟩
  obtain ⟨G3, h3, s3⟩ := hvia _ _ ht
  exact ⟨G3, h3, (S1.out.then_nil ((Keep.refl Nil _).drew)).trans s3⟩

/-- What Close comes to. -/
def wclose1 (c : Cx) (s : RSt) (x : WSt) : Int × RSt × WSt := if x.dead = 0 ∧ ¬ x.list = [] then wflush c s x else (x.dead, s, x)
def wclose2 (q : Int × RSt × WSt) : Int × RSt × WSt := if q.1 = 0 then ((q.2.1.D.seal_ q.2.2.name).2, { q.2.1 with D := (q.2.1.D.seal_ q.2.2.name).1 }, q.2.2) else q
def wclose (c : Cx) (s : RSt) (x : WSt) : Int × RSt × WSt :=
  if x.done = true then (6, s, x) else ((wclose2 (wclose1 c s x)).1, (wend c (wclose2 (wclose1 c s x)).2.1 (wclose2 (wclose1 c s x)).2.2))

set_option maxRecDepth 100000 in
set_option maxHeartbeats 2000000 in
theorem close_shut (c : Cx) (w : World) (b : Nat) (G : Nat → Prop) (s : RSt) (x : WSt) (h : WrtAt c w b G s x) (hd : x.done = true) :
    Calls Tryz.prog 133 #[.pointer (some ⟨b, 0, none⟩)] w (WPost c b G w (wclose c s x)) := by
  obtain ⟨v, hb, _⟩ := h.cells
  have hs := state_any b c.k x.dead x.done w (hb.at_ 0) (hb.at_ 4) (hb.at_ 5)
  rw [show stSt x.done x.dead = 6 by simp [stSt, hd]] at hs
  have HX := Hid.intro_ (show wclose c s x = (6, s, x) by unfold wclose; rw [if_pos hd])
  clear hd
  go_enter_defers Tryz.func133, Tryz.ntmps133
  go_wp2_with (go_at_call 149; refine hs.mono ?_; rintro e w' ⟨rfl, hw⟩; obtain rfl := hw.symm)
  simp only [bodyPostD, Leaves]
  refine ⟨_, results_tmp rfl _ _ _, ?_⟩
  rw [HX.out]
  exact ⟨rfl, WrtTo.refl h⟩

set_option maxRecDepth 100000 in
set_option maxHeartbeats 4000000 in
theorem close_open (c : Cx) (w : World) (b : Nat) (G : Nat → Prop) (s : RSt) (x : WSt) (h : WrtAt c w b G s x) (hd : x.done = false) (hp : x.place < 4611686018427387904) :
    Calls Tryz.prog 133 #[.pointer (some ⟨b, 0, none⟩)] w (WPost c b G w (wclose c s x)) := by
  obtain ⟨v, hb, hv0, hv1⟩ := h.cells
  have hs := state_any b c.k x.dead x.done w (hb.at_ 0) (hb.at_ 4) (hb.at_ 5)
  rw [show stSt x.done x.dead = x.dead by simp [stSt, hd]] at hs
  have HX := Hid.intro_ (show wclose c s x = ((wclose2 (wclose1 c s x)).1, (wend c (wclose2 (wclose1 c s x)).2.1 (wclose2 (wclose1 c s x)).2.2)) by unfold wclose; rw [if_neg (by simp [hd])])
  have hdead : ¬ x.dead = 6 := by rcases h.dead with e | e <;> intro h6 <;> rw [h6] at e <;> revert e <;> decide
  have q6 : (x.dead == 6) = false := by simpa using hdead
  have HS := Hid.intro_ hs
  have c0 : w.cell? ⟨b, 0, none⟩ = some (.pointer (some ⟨c.k, 0, none⟩)) := hb.at_ 0
  have c1 : w.cell? ⟨b, 1, none⟩ = some (.string x.name) := hb.at_ 1
  have c3 : w.cell? ⟨b, 3, none⟩ = some v := hb.at_ 3
  clear hd hs hdead
  obtain ⟨y, hy⟩ : ∃ y, y = wclose1 c s x := ⟨_, rfl⟩
  rw [← hy] at HX
  by_cases h0 : x.dead = 0
  · have q0 : (x.dead == 0) = true := by simpa using h0
    by_cases hl : x.list = []
    · obtain ⟨A, cap, rfl⟩ := hv0 hl
      have hy2 : y = (0, s, x) := by rw [hy]; unfold wclose1; rw [if_neg (by simp [hl]), h0]
      rw [hy2, show wclose2 (0, s, x) = ((s.D.seal_ x.name).2, { s with D := (s.D.seal_ x.name).1 }, x) from if_pos rfl] at HX
      obtain ⟨G0, hr, _, hvia⟩ := (h.nil ((Keep.refl Nil w).drew)).via
      have d0 : w.cell? ⟨c.k, 0, none⟩ = some (.pointer (some ⟨c.d, 0, none⟩)) := hr.desk.at_ 0
      clear hy hy2 h0 hl hv0 hv1
      go_enter_defers Tryz.func133, Tryz.ntmps133
      go_wp2_with (go_at_call 149; refine HS.out.mono ?_; rintro e w' ⟨rfl, hw⟩; obtain rfl := hw.symm)
      go_still_tail 13, (by kernel_rfl)
      change wpList _ _ _ _ _ w.drew
      go_wp2_with fail
      refine (seal_rm hr x.name).mono ?_
      rintro e w2 ⟨rfl, ht⟩
      obtain ⟨G3, h3, s3⟩ := hvia _ _ ht
      go_wp2_with fail
      refine leaves_cons (f := 150) (args := #[.pointer (some ⟨b, 0, none⟩)]) (by simp) (by simp [go_sem]) ?_
      refine (end_d c _ b _ _ _ .returning h3).mono ?_
      rintro e u' w9 ⟨rfl, rfl, G4, h4, s4⟩
      refine ⟨_, results_tmp rfl _ _ _, ?_⟩
      rw [HX.out]
      exact ⟨rfl, G4, h4, ((Stp.of_nil ((Keep.refl Nil w).drew) _).trans s3).trans s4⟩
    · have hl1 : 1 ≤ x.list.length := by
        rcases Nat.eq_zero_or_pos x.list.length with e | e
        · exact (hl (List.eq_nil_of_length_eq_zero e)).elim
        · exact e
      obtain ⟨g, cap, rfl⟩ := hv1 hl1
      have hy2 : y = wflush c s x := by rw [hy]; unfold wclose1; rw [if_pos ⟨h0, hl⟩]
      have hfl := flush_any c w b G s x h hl1 hp
      rw [← hy2] at hfl
      have hm : (0 : Int) < (x.list.length : Int) := by omega
      have HF := Hid.intro_ hfl
      clear hfl hy hy2 h0 hl hv0 hv1
      by_cases hz : y.1 = 0
      · have q1 : (y.1 == 0) = true := by simpa using hz
        rw [show wclose2 y = ((y.2.1.D.seal_ y.2.2.name).2, { y.2.1 with D := (y.2.1.D.seal_ y.2.2.name).1 }, y.2.2) from if_pos hz] at HX
        clear hz
        go_enter_defers Tryz.func133, Tryz.ntmps133
        go_wp2_with (first
          | (go_at_call 149; refine HS.out.mono ?_; rintro e w' ⟨rfl, hw⟩; obtain rfl := hw.symm)
          | (go_at_call 192; refine HF.out.mono ?_; rintro e w1 ⟨rfl, HW⟩
             obtain ⟨G1, h1, s1⟩ := HW
             obtain ⟨v1, hb1, _⟩ := h1.cells
             obtain ⟨G0, hr, _, hvia⟩ := (h1.nil ((Keep.refl Nil w1).drew)).via
             have e0 : w1.cell? ⟨b, 0, none⟩ = some (.pointer (some ⟨c.k, 0, none⟩)) := hb1.at_ 0
             have e1 : w1.cell? ⟨b, 1, none⟩ = some (.string y.2.2.name) := hb1.at_ 1
             have d0 : w1.cell? ⟨c.k, 0, none⟩ = some (.pointer (some ⟨c.d, 0, none⟩)) := hr.desk.at_ 0
             have S1 := Hid.intro_ s1
             clear s1))
        go_still_tail 13, (by kernel_rfl)
        change wpList _ _ _ _ _ w1.drew
        go_wp2_with fail
        refine (seal_rm hr y.2.2.name).mono ?_
        rintro e w2 ⟨rfl, ht⟩
        obtain ⟨G3, h3, s3⟩ := hvia _ _ ht
        go_wp2_with fail
        refine leaves_cons (f := 150) (args := #[.pointer (some ⟨b, 0, none⟩)]) (by simp) (by simp [go_sem]) ?_
        refine (end_d c _ b _ _ _ .returning h3).mono ?_
        rintro e u' w9 ⟨rfl, rfl, G4, h4, s4⟩
        refine ⟨_, results_tmp rfl _ _ _, ?_⟩
        rw [HX.out]
        exact ⟨rfl, G4, h4, ((S1.out.then_nil ((Keep.refl Nil w1).drew)).trans s3).trans s4⟩
      · have q1 : (y.1 == 0) = false := by simpa using hz
        rw [show wclose2 y = y from if_neg hz] at HX
        clear hz
        go_enter_defers Tryz.func133, Tryz.ntmps133
        go_wp2_with (first
          | (go_at_call 149; refine HS.out.mono ?_; rintro e w' ⟨rfl, hw⟩; obtain rfl := hw.symm)
          | (go_at_call 192; refine HF.out.mono ?_; rintro e w1 ⟨rfl, HW⟩
             obtain ⟨G1, h1, s1⟩ := HW
             have S1 := Hid.intro_ s1
             clear s1))
        refine leaves_cons (f := 150) (args := #[.pointer (some ⟨b, 0, none⟩)]) (by simp) (by simp [go_sem]) ?_
        refine (end_d c _ b _ _ _ .returning h1).mono ?_
        rintro e u' w9 ⟨rfl, rfl, G4, h4, s4⟩
        refine ⟨_, results_tmp rfl _ _ _, ?_⟩
        rw [HX.out]
        exact ⟨rfl, G4, h4, S1.out.trans s4⟩
  · have q0 : (x.dead == 0) = false := by simpa using h0
    have hy2 : y = (x.dead, s, x) := by rw [hy]; unfold wclose1; rw [if_neg (fun e => h0 e.1)]
    rw [hy2, show wclose2 (x.dead, s, x) = (x.dead, s, x) from if_neg h0] at HX
    clear hy hy2 h0 hv0 hv1
    go_enter_defers Tryz.func133, Tryz.ntmps133
    go_wp2_with (go_at_call 149; refine HS.out.mono ?_; rintro e w' ⟨rfl, hw⟩; obtain rfl := hw.symm)
    refine leaves_cons (f := 150) (args := #[.pointer (some ⟨b, 0, none⟩)]) (by simp) (by simp [go_sem]) ?_
    refine (end_d c _ b _ _ _ .returning h).mono ?_
    rintro e u' w9 ⟨rfl, rfl, G4, h4, s4⟩
    refine ⟨_, results_tmp rfl _ _ _, ?_⟩
    rw [HX.out]
    exact ⟨rfl, G4, h4, s4⟩

/-- What Drop comes to. -/
def wdrop (c : Cx) (s : RSt) (x : WSt) : Int × RSt × WSt :=
  if x.done = true then (6, s, x) else (((wend c s x).1.D.delete x.name).2, { (wend c s x).1 with D := ((wend c s x).1.D.delete x.name).1 }, (wend c s x).2)

set_option maxRecDepth 100000 in
set_option maxHeartbeats 2000000 in
theorem drop_any (c : Cx) (w : World) (b : Nat) (G : Nat → Prop) (s : RSt) (x : WSt) (h : WrtAt c w b G s x) :
    Calls Tryz.prog 73 #[.pointer (some ⟨b, 0, none⟩)] w (WPost c b G w (wdrop c s x)) := by
  obtain ⟨v, hb, _⟩ := h.cells
  have hs := state_any b c.k x.dead x.done w (hb.at_ 0) (hb.at_ 4) (hb.at_ 5)
  by_cases hd : x.done = true
  · rw [show stSt x.done x.dead = 6 by simp [stSt, hd]] at hs
    have HX := Hid.intro_ (show wdrop c s x = (6, s, x) by unfold wdrop; rw [if_pos hd])
    clear hd
    go_enter Tryz.func73, Tryz.ntmps73
    go_wp2_with (go_at_call 149; refine hs.mono ?_; rintro e w' ⟨rfl, hw⟩; obtain rfl := hw.symm)
    go_ret
    rw [HX.out]
    exact ⟨rfl, WrtTo.refl h⟩
  · rw [show stSt x.done x.dead = x.dead by simp [stSt, hd]] at hs
    have HX := Hid.intro_ (show wdrop c s x = (((wend c s x).1.D.delete x.name).2, { (wend c s x).1 with D := ((wend c s x).1.D.delete x.name).1 }, (wend c s x).2) by unfold wdrop; rw [if_neg hd])
    have hdead : ¬ x.dead = 6 := by rcases h.dead with e | e <;> intro h6 <;> rw [h6] at e <;> revert e <;> decide
    have q6 : (x.dead == 6) = false := by simpa using hdead
    have HS := Hid.intro_ hs
    clear hd hs hdead
    have he := end_c c w b G s x h
    obtain ⟨y, hy⟩ : ∃ y, y = wend c s x := ⟨_, rfl⟩
    have hyn : y.2.name = x.name := by rw [hy]; rfl
    rw [← hy] at HX he
    rw [← hyn] at HX
    have HE := Hid.intro_ he
    clear hy he hyn
    go_enter Tryz.func73, Tryz.ntmps73
    go_wp2_with (first
      | (go_at_call 149; refine HS.out.mono ?_; rintro e w' ⟨rfl, hw⟩; obtain rfl := hw.symm)
      | (go_at_call 150; refine HE.out.mono ?_; rintro e w1 ⟨rfl, G1, h1, s1⟩
         obtain ⟨v1, hb1, _⟩ := h1.cells
         obtain ⟨G0, hr, _, hvia⟩ := (h1.nil ((Keep.refl Nil w1).drew)).via
         have e0 : w1.cell? ⟨b, 0, none⟩ = some (.pointer (some ⟨c.k, 0, none⟩)) := hb1.at_ 0
         have e1 : w1.cell? ⟨b, 1, none⟩ = some (.string y.2.name) := hb1.at_ 1
         have d0 : w1.cell? ⟨c.k, 0, none⟩ = some (.pointer (some ⟨c.d, 0, none⟩)) := hr.desk.at_ 0
         have S1 := Hid.intro_ s1
         clear s1))
    go_still_tail 13, (by kernel_rfl)
    change wpList _ _ _ _ _ w1.drew
    go_wp2_with fail
    refine (delete_rm hr y.2.name).mono ?_
    rintro e w2 ⟨rfl, ht⟩
    obtain ⟨G3, h3, s3⟩ := hvia _ _ ht
    go_wp2_with fail
    go_ret
    rw [HX.out]
    exact ⟨rfl, G3, h3, (S1.out.then_nil ((Keep.refl Nil w1).drew)).trans s3⟩

theorem count_wr (c : Cx) (w : World) (b : Nat) (G : Nat → Prop) (s : RSt) (x : WSt) (h : WrtAt c w b G s x) :
    Calls Tryz.prog 136 #[.pointer (some ⟨b, 0, none⟩)] w fun e w' => e = .returned (.int .i64 x.count) ∧ w' = w := by
  obtain ⟨v, hb, _⟩ := h.cells
  exact count_any b x.count w (hb.at_ 7)
theorem put_any_w (c : Cx) (w : World) (b : Nat) (G : Nat → Prop) (s : RSt) (x : WSt) (r : R4) (h : WrtAt c w b G s x) (hlen : x.list.length < c.K) (hro : r.Ok) (hp : x.place < 4611686018427387904) (hcn : x.count < 4611686018427387904) :
    Calls Tryz.prog 135 #[.pointer (some ⟨b, 0, none⟩), r.val] w (WPost c b G w (wput c s x r)) := by
  by_cases hd : stSt x.done x.dead = 0
  · exact put_open c w b G s x r h hd hlen hro hp hcn
  · exact put_shut c w b G s x r h hd
theorem close_any_w (c : Cx) (w : World) (b : Nat) (G : Nat → Prop) (s : RSt) (x : WSt) (h : WrtAt c w b G s x) (hp : x.place < 4611686018427387904) :
    Calls Tryz.prog 133 #[.pointer (some ⟨b, 0, none⟩)] w (WPost c b G w (wclose c s x)) := by
  cases hd : x.done
  · exact close_open c w b G s x h hd hp
  · exact close_shut c w b G s x h hd

/-- What stands behind Write. -/
structure WrP (c : Cx) (G : Nat → Prop) (X : Int × DSt × PSt) (s : RSt) (name : ByteArray) (kind : Nat) (w : World) (e : Ending) (w' : World) : Prop where mk ::
  out : (¬ X.1 = 0 ∧ e = .returned (.tuple #[.pointer none, .int .i64 X.1]) ∧ RmTo c G { s with D := X.2.1, S := X.2.2 } w w') ∨
    (X.1 = 0 ∧ ∃ b, e = .returned (.tuple #[.pointer (some ⟨b, 0, none⟩), .int .i64 0]) ∧ w.heap.size ≤ b ∧ WrtTo c b G { s with D := X.2.1, S := X.2.2 } { name := name, kind := kind, dead := 0, done := false, place := 0, count := 0, list := [] } w w')

theorem openW_block (D : DSt) (S : PSt) (K : Int) (name : ByteArray) (kind : Int) : (openW D S K name kind).2.1.block = D.block := by
  unfold openW
  repeat' split
  all_goals first | rfl | exact create_block _ _
theorem openW_kind {D : DSt} {S : PSt} {K : Int} {name : ByteArray} {kind : Int} (h : (openW D S K name kind).1 = 0) : 1 ≤ kind ∧ kind ≤ 5 := by
  unfold openW at h
  split at h
  · simp at h
  · rename_i h2; omega

theorem write_rm (c : Cx) (w : World) (G : Nat → Prop) (s : RSt) (name : ByteArray) (kind : Nat) (h : RmAt c w G s) :
    Calls Tryz.prog 62 #[.pointer (some ⟨c.k, 0, none⟩), .string name, .int .i64 kind] w (WrP c G (openW s.D s.S c.K name kind) s name kind w) := by
  obtain ⟨F, rfl, hd⟩ := h.out
  have hp := h.posK
  refine (write_any F c.E c.d c.p c.lk c.k c.of s.D s.S c.K s.next name kind w hd (by omega)).mono fun e w' hw => ?_
  obtain ⟨F', h1, s1, hc⟩ := hw.out
  have hto := h.step ⟨F', h1, s1⟩ (openW_block _ _ _ _ _)
  have hr' : RmAt c w' (RF F' c.p c.lk c.k) { s with D := (openW s.D s.S c.K name kind).2.1, S := (openW s.D s.S c.K name kind).2.2 } := ⟨⟨F', rfl, h1⟩, h.env.step s1, (openW_block _ _ _ _ _).trans h.blk, h.fitK, h.posK⟩
  rcases hc with ⟨hn, he⟩ | ⟨hz, b, he, hb, hnb, hblk⟩
  · exact ⟨.inl ⟨hn, he, hto⟩⟩
  · have hk := openW_kind hz
    refine ⟨.inr ⟨hz, b, he, hb, WF (RF F' c.p c.lk c.k) b (.slice none 0 0), ⟨⟨_, _, rfl, hr', hblk, ?_, ListAt.nil _ _ _⟩, ⟨(by omega : 1 ≤ kind), (by omega : kind ≤ 255)⟩, Nat.zero_le _, .inl rfl⟩, ⟨s1.keep, fun y hy => ?_⟩⟩⟩
    · have := Off.new h.env h.lt hb
      exact ⟨hnb, this.2⟩
    · rcases hy with (hy | hy) | hy
      · exact s1.grow y hy
      · exact .inr (by rw [hy]; exact hb)
      · simp [Value.ownBlock] at hy
end Go.Proofs.YtadipinnbehhhaaGreatDoor
