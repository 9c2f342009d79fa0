/- The desk: a tape is begun. A stream over a desk: its state, its end. A writer: how many records; it is given up. Frames: the rooms and writers as states; what stays beside them. Encode: records as a block: the walk. Writers as states: what a writer is in memory, with the records that it holds; flush. A writer: flush: the records in memory become a block of the file. A writer: Put. A writer: Close, Drop, Count; a tape is begun. Data in memory: bytes, rows of bytes, files, a disk's state: what the references hold. slices.Clone at bytes; a new disk. -/
import Derived.Deep.Cut
import Derived.Deep.CutRange
import Derived.Deep.RegionWith
import Derived.StillTailTactics
import Derived.Deep.RegionHeld3
import Derived.Defers
import Derived.Test.YtadipinnbehhhaaGreatDoorAsksRowAC
import Derived.Test.YtadipinnbehhhaaGreatDoorAsksRowAB
namespace Go.Proofs.YtadipinnbehhhaaGreatDoor
open Go.RowKit

theorem asked_frees {S : PSt} {K : Int} (hK : 0 < K) (h : ¬ S.frees < K) : S.asked K = 0 := by
  unfold PSt.frees at h
  unfold PSt.asked
  split at h
  · omega
  · rename_i hc
    rw [if_neg hc, if_neg (by omega), if_neg (by omega)]
section
variable {w w' : World} {F F' : Nat → Prop} {E : Nat → Addr} {d p lk k : Nat} {of : Option Nat} {D D' : DSt} {S S' : PSt} {K next : Int}

theorem DkAt.lt (h : DkAt w F E d p lk k of D S K next) (b : Nat) (hb : RF F p lk k b) : b < w.heap.size := by
  obtain ⟨R, hd⟩ := h.disk
  rcases hb with hf | (hf | hf) | hf
  · exact hd.lt b hf
  · rw [hf]; exact h.purse.blk.lt
  · rw [hf]; exact h.purse.lock.lt
  · rw [hf]; exact h.desk.lt
/-- What Free answers, in the room's words. -/
theorem frees_dk (h : DkAt w F E d p lk k of D S K next) :
    Calls Tryz.prog 126 #[.pointer (some ⟨p, 0, none⟩)] w fun e w' => e = .returned (.int .i64 S.frees) ∧ DkTo w F E d p lk k of D S K next w' :=
  (frees_any p lk of S w h.purse).mono fun _ _ ⟨he, hp, hk⟩ => ⟨he, h.at_purse hp hk⟩
theorem take_dk (n : Int) (h : DkAt w F E d p lk k of D S K next) :
    Calls Tryz.prog 127 #[.pointer (some ⟨p, 0, none⟩), .int .i64 n] w fun e w' => e = .returned (.int .i64 (S.asked n)) ∧ DkTo w F E d p lk k of D (S.take n) K next w' :=
  (take_any p lk of S n w h.purse).mono fun _ _ ⟨he, hp, hk⟩ => ⟨he, h.at_purse hp hk⟩
theorem give_dk (n : Int) (h : DkAt w F E d p lk k of D S K next) :
    Calls Tryz.prog 129 #[.pointer (some ⟨p, 0, none⟩), .int .i64 n] w fun e w' => e = .returned (.int .i64 (S.gives n)) ∧ DkTo w F E d p lk k of D (S.give n) K next w' :=
  (give_any p lk of S n w h.purse).mono fun _ _ ⟨he, hp, hk⟩ => ⟨he, h.at_purse hp hk⟩
end

/-- What Write comes to. -/
def openW (D : DSt) (S : PSt) (K : Int) (name : ByteArray) (kind : Int) : Int × DSt × PSt :=
  if ¬ (1 ≤ kind ∧ kind ≤ 5) then (1, D, S) else if D.on = false then (10, D, S) else if ¬ D.fresh name = 0 then (D.fresh name, D, S) else if S.frees < K then (2, D, S)
  else if ¬ (D.create name).2 = 0 then ((D.create name).2, (D.create name).1, (S.take K).give K) else (0, (D.create name).1, S.take K)
end Go.Proofs.YtadipinnbehhhaaGreatDoor
namespace Go.Proofs.YtadipinnbehhhaaGreatDoor
open Go.RowKit

section
variable {w w' w2 : World} {F F' : Nat → Prop} {E : Nat → Addr} {d p lk k : Nat} {of : Option Nat} {D D' D2 : DSt} {S S' S2 : PSt} {K next : Int} {b : Nat} {T : TypeId} {cs cs' cs2 : Array Value}

end

def stSt (done : Bool) (dead : Int) : Int := if done = true then 6 else dead
set_option maxHeartbeats 1000000 in
theorem state_any (b k : Nat) (dead : Int) (done : Bool) (w : World) (c0 : w.cell? ⟨b, 0, none⟩ = some (.pointer (some ⟨k, 0, none⟩))) (c4 : w.cell? ⟨b, 4, none⟩ = some (.int .i64 dead)) (c5 : w.cell? ⟨b, 5, none⟩ = some (.bool done)) :
    Calls Tryz.prog 149 #[.pointer (some ⟨b, 0, none⟩)] w fun e w' => e = .returned (.int .i64 (stSt done dead)) ∧ w' = w := by
  unfold stSt
  cases done
  all_goals
    go_enter Tryz.func149, Tryz.ntmps149
    go_wp2
    go_ret
    exact ⟨rfl, rfl⟩
/-- A refusal that ends a stream. -/
def kills (e : Int) : Bool := decide (e = 10) || decide (e = 9) || decide (e = 17) || decide (e = 30) || decide (e = 31) || decide (e = 32)
set_option maxHeartbeats 1000000 in
theorem die_any (b : Nat) (x : Int) (u : Value) (w : World) (c4 : w.cell? ⟨b, 4, none⟩ = some u) (f4 : w.frozen? ⟨b, 4, none⟩ = false) :
    Calls Tryz.prog 194 #[.pointer (some ⟨b, 0, none⟩), .int .i64 x] w fun e w' => e = .returned (.int .i64 x) ∧ w' = if kills x = true then w.setCell ⟨b, 4, none⟩ (.int .i64 x) else w := by
  by_cases h1 : x = 10 ∨ x = 9 ∨ x = 17 ∨ x = 30 ∨ x = 31 ∨ x = 32
  · have e : kills x = true := by rcases h1 with rfl | rfl | rfl | rfl | rfl | rfl <;> rfl
    rw [e, if_pos rfl]
    rcases h1 with rfl | rfl | rfl | rfl | rfl | rfl
    all_goals
      clear e
      go_enter Tryz.func194, Tryz.ntmps194
      go_wp2
      go_ret
      exact ⟨rfl, rfl⟩
  · have e : kills x = false := by simp [kills]; omega
    rw [e, if_neg (by decide)]
    have q1 : (x == 10) = false := by simp; omega
    have q2 : (x == 9) = false := by simp; omega
    have q3 : (x == 17) = false := by simp; omega
    have q4 : (x == 30) = false := by simp; omega
    have q5 : (x == 31) = false := by simp; omega
    have q6 : (x == 32) = false := by simp; omega
    clear e h1
    go_enter Tryz.func194, Tryz.ntmps194
    go_wp2
    go_ret
    exact ⟨rfl, rfl⟩
end Go.Proofs.YtadipinnbehhhaaGreatDoor
namespace Go.Proofs.YtadipinnbehhhaaGreatDoor
open Go.RowKit

end Go.Proofs.YtadipinnbehhhaaGreatDoor
namespace Go.Proofs.YtadipinnbehhhaaGreatDoor
open Go.RowKit

/-- What does not turn of a room: the errors, the disk, the purse, its lock, the desk, the bytes of a block. -/
structure Cx where
  E : Nat → Addr
  d : Nat
  p : Nat
  lk : Nat
  k : Nat
  of : Option Nat
  K : Nat
  block : Nat
structure RSt where
  D : DSt
  S : PSt
  next : Int
/-- Package recs' two tables lie as their initialisers laid them. -/
def MagicAt (w : World) : Prop := ∀ (i : Nat) (x : Int), [83, 84, 82, 65][i]? = some x → w.cell? ⟨9, i, none⟩ = some (.int .u8 x)
/-- What lies beside the frame G: the error variables, the tables. -/
structure Envs (E : Nat → Addr) (w : World) (G : Nat → Prop) : Prop where
  errs : Env w G E
  halves : HalvesAt w
  magic : MagicAt w
  nh : ¬ G 11
  nm : ¬ G 9
theorem HalvesAt.keep {w w' : World} {F : Nat → Prop} (h : HalvesAt w) (k : Keep F w w') (hn : ¬ F 11) : HalvesAt w' := fun i hi => cell_keep (h i hi) k hn
theorem MagicAt.keep {w w' : World} {F : Nat → Prop} (h : MagicAt w) (k : Keep F w w') (hn : ¬ F 9) : MagicAt w' := fun i x hi => cell_keep (h i x hi) k hn
section
variable {E : Nat → Addr} {w w' w2 : World} {G G' G2 H : Nat → Prop}
theorem Envs.step (h : Envs E w G) (s : Stp w G w' G') : Envs E w' G' := {
  errs := h.errs.step s
  halves := h.halves.keep s.keep h.nh
  magic := h.magic.keep s.keep h.nm
  nh := fun hf => (s.grow _ hf).elim h.nh (fun hl => by have := cell_lt (h.halves 0 (by decide)); simp only at this; omega)
  nm := fun hf => (s.grow _ hf).elim h.nm (fun hl => by have := cell_lt (h.magic 0 83 rfl); simp only at this; omega) }
theorem Envs.nil (h : Envs E w G) (k : Keep Nil w w') : Envs E w' G := h.step (Stp.of_nil k G)
theorem Envs.less (h : Envs E w G) (hs : ∀ b, H b → G b) : Envs E w H := {
  errs := ⟨h.errs.errs, fun i hi hf => h.errs.nv i hi (hs _ hf), fun i hi hf => h.errs.nb i hi (hs _ hf)⟩
  halves := h.halves
  magic := h.magic
  nh := fun hf => h.nh (hs _ hf)
  nm := fun hf => h.nm (hs _ hf) }
/-- A new block comes to the frame. -/
theorem Envs.more (h : Envs E w G) (hs : ∀ b, H b → G b ∨ w.heap.size ≤ b) : Envs E w H := h.step ⟨(Keep.refl _ _), hs⟩
theorem Stp.less (h : Stp w G w' G') (hs : ∀ b, H b → G' b) : Stp w G w' H := ⟨h.keep, fun b hb => h.grow b (hs b hb)⟩
theorem Stp.wide (h : Stp w G w' G') (hs : ∀ b, G b → H b) : Stp w H w' G' := ⟨h.keep.mono (fun b _ hb => hs b hb), fun b hb => (h.grow b hb).elim (fun h => .inl (hs b h)) .inr⟩
/-- A step of a part of the frame. -/
theorem Stp.part (h : Stp w G w' G') (H : Nat → Prop) : Stp w (fun b => G b ∨ H b) w' (fun b => G' b ∨ H b) :=
  ⟨h.keep.mono (fun _ _ hb => .inl hb), fun b hb => hb.elim (fun h1 => (h.grow b h1).elim (fun h => .inl (.inl h)) .inr) (fun h => .inl (.inr h))⟩
/-- What lies beside the frame, and is there already, lies beside it behind a step. -/
theorem Stp.off (h : Stp w G w' G') {b : Nat} (hb : b < w.heap.size) (hn : ¬ G b) : ¬ G' b := fun hg => (h.grow b hg).elim hn (fun hl => by omega)
end

/-- A room. -/
structure RmAt (c : Cx) (w : World) (G : Nat → Prop) (s : RSt) : Prop where mk ::
  out : ∃ F, G = RF F c.p c.lk c.k ∧ DkAt w F c.E c.d c.p c.lk c.k c.of s.D s.S c.K s.next
  env : Envs c.E w G
  blk : s.D.block = c.block
  fitK : fit c.block = c.K
  posK : 0 < c.K
/-- What a room comes to. -/
def RmTo (c : Cx) (G : Nat → Prop) (s' : RSt) (w w' : World) : Prop := ∃ G', RmAt c w' G' s' ∧ Stp w G w' G'
section
variable {c : Cx} {w w' w2 w0 : World} {G G' : Nat → Prop} {s s' s2 : RSt}
theorem RmAt.lt (h : RmAt c w G s) (b : Nat) (hb : G b) : b < w.heap.size := by
  obtain ⟨F, rfl, hd⟩ := h.out
  exact hd.lt b hb
theorem RmAt.nil (h : RmAt c w G s) (k : Keep Nil w w') : RmAt c w' G s := by
  obtain ⟨F, rfl, hd⟩ := h.out
  exact ⟨⟨F, rfl, hd.nil k⟩, h.env.nil k, h.blk, h.fitK, h.posK⟩
/-- What turns beside the room. -/
theorem RmAt.keep {H : Nat → Prop} (h : RmAt c w G s) (k : Keep H w w') (hG : ∀ b, G b → ¬ H b) (he : Envs c.E w H) : RmAt c w' G s := by
  obtain ⟨F, rfl, hd⟩ := h.out
  refine ⟨⟨F, rfl, hd.keep k hG he.errs.nv he.errs.nb⟩, ?_, h.blk, h.fitK, h.posK⟩
  exact ⟨⟨h.env.errs.errs.keep k he.errs.nv he.errs.nb, h.env.errs.nv, h.env.errs.nb⟩, h.env.halves.keep k he.nh, h.env.magic.keep k he.nm, h.env.nh, h.env.nm⟩
theorem RmTo.refl (h : RmAt c w G s) : RmTo c G s w w := ⟨G, h, Stp.refl _ _⟩
theorem RmTo.nil (h : RmTo c G s' w w') (k : Keep Nil w' w2) : RmTo c G s' w w2 := by
  obtain ⟨G1, h1, s1⟩ := h
  exact ⟨G1, h1.nil k, s1.then_nil k⟩
theorem RmTo.from_nil (h : RmTo c G s' w w') (k : Keep Nil w0 w) : RmTo c G s' w0 w' := by
  obtain ⟨G1, h1, s1⟩ := h
  exact ⟨G1, h1, (Stp.of_nil k _).trans s1⟩
theorem RmTo.then_ (h : RmTo c G s' w w') (t : ∀ G', RmAt c w' G' s' → RmTo c G' s2 w' w2) : RmTo c G s2 w w2 := by
  obtain ⟨G1, h1, s1⟩ := h
  obtain ⟨G2, h2, s2⟩ := t G1 h1
  exact ⟨G2, h2, s1.trans s2⟩
/-- What the desk's words say, in the room's. -/
theorem RmAt.step {F : Nat → Prop} {D' : DSt} {S' : PSt} (h : RmAt c w (RF F c.p c.lk c.k) s) (t : DkTo w F c.E c.d c.p c.lk c.k c.of D' S' c.K s.next w') (hb : D'.block = s.D.block) : RmTo c (RF F c.p c.lk c.k) { s with D := D', S := S' } w w' := by
  obtain ⟨F', h1, s1⟩ := t
  exact ⟨_, ⟨⟨F', rfl, h1⟩, h.env.step s1, hb.trans h.blk, h.fitK, h.posK⟩, s1⟩
end
end Go.Proofs.YtadipinnbehhhaaGreatDoor
namespace Go.Proofs.YtadipinnbehhhaaGreatDoor
open Go.RowKit

/-- m bytes that are 0. -/
def zer (m : Nat) : List Int := List.replicate m 0
end Go.Proofs.YtadipinnbehhhaaGreatDoor
namespace Go.Proofs.YtadipinnbehhhaaGreatDoor
open Go.RowKit

structure WSt where
  name : ByteArray
  kind : Nat
  dead : Int
  done : Bool
  place : Nat
  count : Nat
  list : List R4
/-- Beside the frame, the errors and the tables. -/
def Off (E : Nat → Addr) (G : Nat → Prop) (g : Nat) : Prop := ¬ G g ∧ (∀ i, i < 9 → errVar i ≠ g ∧ (E i).block ≠ g) ∧ g ≠ 11 ∧ g ≠ 9
/-- The blocks of a writer: the room's, its own, its records'. -/
def WF (G : Nat → Prop) (b : Nat) (v : Value) : Nat → Prop := fun x => (G x ∨ x = b) ∨ v.ownBlock = some x
theorem Off.new {E : Nat → Addr} {w : World} {G : Nat → Prop} {g : Nat} (h : Envs E w G) (hG : ∀ b, G b → b < w.heap.size) (hg : w.heap.size ≤ g) : Off E G g := by
  refine ⟨fun hb => by have := hG g hb; omega, fun i hi => ⟨fun e => ?_, fun e => ?_⟩, fun e => ?_, fun e => ?_⟩
  · have := h.errs.errs.old i hi; omega
  · obtain ⟨cs, t, hb⟩ := h.errs.errs.blk i hi
    have := lt_of_heap hb
    omega
  · have := cell_lt (h.halves 0 (by decide)); simp only at this; omega
  · have := cell_lt (h.magic 0 83 rfl); simp only at this; omega
theorem Off.step {E : Nat → Addr} {w w' : World} {G G' : Nat → Prop} {g : Nat} (h : Off E G g) (hg : g < w.heap.size) (s : Stp w G w' G') : Off E G' g := ⟨s.off hg h.1, h.2⟩
theorem rcCells_len (l : List R4) : (rcCells l).length = 4 * l.length := by
  induction l with
  | nil => rfl
  | cons r l ih =>
    have : rcCells (r :: l) = (r.ws.map fun (x : Nat) => Value.int .u64 x) ++ rcCells l := rfl
    rw [this, List.length_append, ih]
    simp [R4.ws]; omega
theorem rcCells_app (a b : List R4) : rcCells (a ++ b) = rcCells a ++ rcCells b := by simp [rcCells]
section
variable {w w' : World} {G G' H : Nat → Prop} {E : Nat → Addr} {v : Value} {l : List R4}
end

section
variable {c : Cx} {w w' w2 w0 : World} {b : Nat} {G G' : Nat → Prop} {s s' s2 : RSt} {x x' x2 : WSt}
end

theorem RmAt.desk {c : Cx} {w : World} {G : Nat → Prop} {s : RSt} (h : RmAt c w G s) : Blk w c.k 242 #[.pointer (some ⟨c.d, 0, none⟩), .pointer (some ⟨c.p, 0, none⟩), .int .i64 c.K, .int .i64 s.next] := by
  obtain ⟨F, _, hd⟩ := h.out
  exact hd.desk
theorem encB_len {kind : Int} {place block : Nat} {l : List R4} (h : 32 * l.length + 32 ≤ block) : (encB kind place l block).length = block := by
  unfold encB
  rw [List.length_append, encBody_len h, loB_len]; omega
theorem encB_range {kind : Int} {place block : Nat} {l : List R4} (hk : 1 ≤ kind ∧ kind ≤ 255) : ∀ x ∈ encB kind place l block, 0 ≤ x ∧ x ≤ 255 := by
  intro x hx
  rcases List.mem_append.1 hx with hx | hx
  · exact encBody_range hk x hx
  · exact loB_range _ _ x hx
end Go.Proofs.YtadipinnbehhhaaGreatDoor
namespace Go.Proofs.YtadipinnbehhhaaGreatDoor
open Go.RowKit

end Go.Proofs.YtadipinnbehhhaaGreatDoor
namespace Go.Proofs.YtadipinnbehhhaaGreatDoor
open Go.RowKit

theorem info_rec : (Tryz.prog.info? 111).map (fun i => (i.zero, i.size, i.bytes)) = some (some (.agg #[.int .u64 0, .int .u64 0, .int .u64 0, .int .u64 0]), 4, 32) := by kernel_rfl
theorem news_new {w : World} {t : TypeId} {cs : List Value} {n : Nat} (hn : w.heap.size = n) : ∀ (j : Nat) (u : Value), cs[j]? = some u → (w.alloc (.cells cs.toArray t)).cell? (Addr.add ⟨n, 0, none⟩ j) = some u := by
  intro j u hu
  subst hn
  have := (Blk.new w t cs.toArray).at_ j
  rw [List.getElem?_toArray, hu] at this
  by_cases h0 : j = 0
  · subst h0; simpa [Addr.add] using this
  · simpa [Addr.add, h0] using this
def R4.val (r : R4) : Value := .agg #[.int .u64 r.a, .int .u64 r.b, .int .u64 r.c, .int .u64 r.d]
end Go.Proofs.YtadipinnbehhhaaGreatDoor
namespace Go.Proofs.YtadipinnbehhhaaGreatDoor
open Go.RowKit

theorem give_rm {c : Cx} {w : World} {G : Nat → Prop} {s : RSt} (h : RmAt c w G s) (n : Int) :
    Calls Tryz.prog 129 #[.pointer (some ⟨c.p, 0, none⟩), .int .i64 n] w fun e w' => e = .returned (.int .i64 (s.S.gives n)) ∧ RmTo c G { s with S := s.S.give n } w w' := by
  obtain ⟨F, rfl, hd⟩ := h.out
  exact (give_dk n hd).mono fun _ _ ⟨he, ht⟩ => ⟨he, h.step ht rfl⟩
end Go.Proofs.YtadipinnbehhhaaGreatDoor
namespace Go.Proofs.YtadipinnbehhhaaGreatDoor
open Go.RowKit

/-- Where a slice's cells lie: a block of H that is there. -/
structure InA (w : World) (H : Nat → Prop) (a : Addr) : Prop where
  h : H a.block
  lt : a.block < w.heap.size
  sp : a.spot = none
def In_ (w : World) (H : Nat → Prop) (A : Option Addr) : Prop := ∀ a, A = some a → InA w H a
theorem add_at (g o j : Nat) : (⟨g, o, none⟩ : Addr).add j = ⟨g, o + j, none⟩ := by
  unfold Addr.add
  split
  · rename_i h; rw [h]; rfl
  · rfl
/-- A slice of bytes. -/
structure BsAt (w : World) (H : Nat → Prop) (v : Value) (bs : List Int) : Prop where mk ::
  out : ∃ A c, v = .slice A bs.length c ∧ bs.length ≤ c ∧ Rd w A (by8 bs) ∧ In_ w H A ∧ ∀ a, A = some a → ∃ cs fr, w.heap[a.block]? = some (.cells cs 5 fr)
/-- A slice of such slices. -/
structure FsAt (w : World) (H : Nat → Prop) (v : Value) (f : List (List Int)) : Prop where mk ::
  out : ∃ A c vs, v = .slice A f.length c ∧ vs.length = f.length ∧ Rd w A vs ∧ In_ w H A ∧ (∀ a, A = some a → ∃ cs fr, w.heap[a.block]? = some (.cells cs 161 fr)) ∧ ∀ (j : Nat) (u : Value) (bs : List Int), vs[j]? = some u → f[j]? = some bs → BsAt w H u bs
/-- Files as cells. -/
def fileCells (fs : List (ByteArray × AFile)) (rs : List Value) : List Value := (List.zip fs rs).flatMap fun p => [.string p.1.1, .bool p.1.2.done, p.2]
/-- A slice of files. -/
structure FlAt (w : World) (H : Nat → Prop) (v : Value) (fs : List (ByteArray × AFile)) : Prop where mk ::
  out : ∃ A c rs, v = .slice A fs.length c ∧ rs.length = fs.length ∧ Rd w A (fileCells fs rs) ∧ In_ w H A ∧ (∀ a, A = some a → ∃ cs fr, w.heap[a.block]? = some (.cells cs 55 fr)) ∧ ∀ (j : Nat) (r : Value) (f : ByteArray × AFile), rs[j]? = some r → fs[j]? = some f → FsAt w H r f.2.blocks
/-- A state. -/
structure StAt (w : World) (H : Nat → Prop) (v : Value) (block : Int) (fs : List (ByteArray × AFile)) : Prop where mk ::
  out : ∃ u, v = .agg #[.int .i64 block, u] ∧ FlAt w H u fs
section
variable {w w' : World} {F H H' : Nat → Prop}
theorem In_.keep {A : Option Addr} (h : In_ w H A) (k : Keep F w w') : In_ w' H A := fun a e => ⟨(h a e).1, Nat.lt_of_lt_of_le (h a e).2 k.size, (h a e).3⟩
theorem In_.mono {A : Option Addr} (h : In_ w H A) (hs : ∀ b, H b → b < w.heap.size → H' b) : In_ w H' A := fun a e => ⟨hs _ (h a e).1 (h a e).2, (h a e).2, (h a e).3⟩
theorem In_.none_ : In_ w H none := fun a e => by cases e
theorem BsAt.keep {v : Value} {bs : List Int} (h : BsAt w H v bs) (k : Keep F w w') (hF : ∀ b, H b → b < w.heap.size → ¬ F b) : BsAt w' H v bs := by
  obtain ⟨A, c, e, hc, hr, hi, ht⟩ := h.out
  refine ⟨A, c, e, hc, hr.keep k (fun ad e _ => hF _ (hi ad e).1 (hi ad e).2), hi.keep k, fun a e2 => ?_⟩
  obtain ⟨cs, fr, hb⟩ := ht a e2
  exact ⟨cs, fr, (k.same _ (hi a e2).2 (hF _ (hi a e2).1 (hi a e2).2)).trans hb⟩
theorem BsAt.mono {v : Value} {bs : List Int} (h : BsAt w H v bs) (hs : ∀ b, H b → b < w.heap.size → H' b) : BsAt w H' v bs := by
  obtain ⟨A, c, e, hc, hr, hi, ht⟩ := h.out
  exact ⟨A, c, e, hc, hr, hi.mono hs, ht⟩
theorem FsAt.keep {v : Value} {f : List (List Int)} (h : FsAt w H v f) (k : Keep F w w') (hF : ∀ b, H b → b < w.heap.size → ¬ F b) : FsAt w' H v f := by
  obtain ⟨A, c, vs, e, hl, hr, hi, ht, hv⟩ := h.out
  refine ⟨A, c, vs, e, hl, hr.keep k (fun ad e _ => hF _ (hi ad e).1 (hi ad e).2), hi.keep k, fun a e2 => ?_, fun j u bs hu hb => (hv j u bs hu hb).keep k hF⟩
  obtain ⟨cs, fr, hb⟩ := ht a e2
  exact ⟨cs, fr, (k.same _ (hi a e2).2 (hF _ (hi a e2).1 (hi a e2).2)).trans hb⟩
theorem FsAt.mono {v : Value} {f : List (List Int)} (h : FsAt w H v f) (hs : ∀ b, H b → b < w.heap.size → H' b) : FsAt w H' v f := by
  obtain ⟨A, c, vs, e, hl, hr, hi, ht, hv⟩ := h.out
  exact ⟨A, c, vs, e, hl, hr, hi.mono hs, ht, fun j u bs hu hb => (hv j u bs hu hb).mono hs⟩
theorem FlAt.keep {v : Value} {fs : List (ByteArray × AFile)} (h : FlAt w H v fs) (k : Keep F w w') (hF : ∀ b, H b → b < w.heap.size → ¬ F b) : FlAt w' H v fs := by
  obtain ⟨A, c, rs, e, hl, hr, hi, ht, hv⟩ := h.out
  refine ⟨A, c, rs, e, hl, hr.keep k (fun ad e _ => hF _ (hi ad e).1 (hi ad e).2), hi.keep k, fun a e2 => ?_, fun j r f hu hb => (hv j r f hu hb).keep k hF⟩
  obtain ⟨cs, fr, hb⟩ := ht a e2
  exact ⟨cs, fr, (k.same _ (hi a e2).2 (hF _ (hi a e2).1 (hi a e2).2)).trans hb⟩
theorem FlAt.mono {v : Value} {fs : List (ByteArray × AFile)} (h : FlAt w H v fs) (hs : ∀ b, H b → b < w.heap.size → H' b) : FlAt w H' v fs := by
  obtain ⟨A, c, rs, e, hl, hr, hi, ht, hv⟩ := h.out
  exact ⟨A, c, rs, e, hl, hr, hi.mono hs, ht, fun j r f hu hb => (hv j r f hu hb).mono hs⟩
theorem StAt.keep {v : Value} {block : Int} {fs : List (ByteArray × AFile)} (h : StAt w H v block fs) (k : Keep F w w') (hF : ∀ b, H b → b < w.heap.size → ¬ F b) : StAt w' H v block fs := by
  obtain ⟨u, e, hf⟩ := h.out
  exact ⟨u, e, hf.keep k hF⟩
theorem StAt.mono {v : Value} {block : Int} {fs : List (ByteArray × AFile)} (h : StAt w H v block fs) (hs : ∀ b, H b → b < w.heap.size → H' b) : StAt w H' v block fs := by
  obtain ⟨u, e, hf⟩ := h.out
  exact ⟨u, e, hf.mono hs⟩
theorem BsAt.nil {v : Value} {bs : List Int} (h : BsAt w H v bs) (k : Keep Nil w w') : BsAt w' H v bs := h.keep k (fun _ _ _ h => h)
theorem FsAt.nil {v : Value} {f : List (List Int)} (h : FsAt w H v f) (k : Keep Nil w w') : FsAt w' H v f := h.keep k (fun _ _ _ h => h)
theorem FlAt.nil {v : Value} {fs : List (ByteArray × AFile)} (h : FlAt w H v fs) (k : Keep Nil w w') : FlAt w' H v fs := h.keep k (fun _ _ _ h => h)
theorem StAt.nil {v : Value} {block : Int} {fs : List (ByteArray × AFile)} (h : StAt w H v block fs) (k : Keep Nil w w') : StAt w' H v block fs := h.keep k (fun _ _ _ h => h)
/-- A row of one's own as bytes. -/
theorem BsAt.of_own {base n : Nat} {v : Value} {bs : List Int} (h : w.ownsRow base 5 1 v n (by8 bs)) (hn : bs.length = n) (hH : ∀ g, v.ownBlock = some g → H g) : BsAt w H v bs := by
  subst hn
  have hr := h
  rcases h.2 with ⟨e, h0⟩ | ⟨g, cap, cur, e, hb, hh, hle, hm, hs, ht⟩
  · subst e
    exact ⟨none, 0, by rw [h0], by omega, own_rd hr, In_.none_, fun a e => by cases e⟩
  · subst e
    exact ⟨some ⟨g, 0, none⟩, cap, rfl, hle, own_rd hr, fun a e => by injection e with e; subst e; exact ⟨hH g rfl, lt_of_heap hh, rfl⟩, fun a e => by injection e with e; subst e; exact ⟨_, _, hh⟩⟩
/-- A row of one's own of slices of bytes. -/
structure OFs (w : World) (base : Nat) (H : Nat → Prop) (v : Value) (f : List (List Int)) : Prop where mk ::
  out : ∃ vs, w.ownsRow base 161 1 v f.length vs ∧ ∀ (j : Nat) (u : Value) (bs : List Int), vs[j]? = some u → f[j]? = some bs → BsAt w H u bs
theorem OFs.fs {base : Nat} {v : Value} {f : List (List Int)} (h : OFs w base H v f) (hH : ∀ g, v.ownBlock = some g → H g) : FsAt w H v f := by
  obtain ⟨vs, ho, hv⟩ := h.out
  have hr := ho
  have hl : vs.length = f.length := by simpa using ho.1
  rcases ho.2 with ⟨e, h0⟩ | ⟨g, cap, cur, e, hb, hh, hle, hm, hs, ht⟩
  · subst e
    exact ⟨none, 0, vs, by rw [h0], hl, own_rd hr, In_.none_, (fun a e => by cases e), hv⟩
  · subst e
    exact ⟨some ⟨g, 0, none⟩, cap, vs, rfl, hl, own_rd hr, fun a e => by injection e with e; subst e; exact ⟨hH g rfl, lt_of_heap hh, rfl⟩, fun a e => by injection e with e; subst e; exact ⟨_, _, hh⟩, hv⟩
theorem OFs.nil_ (w : World) (base : Nat) (H : Nat → Prop) : OFs w base H (.slice none 0 0) [] := ⟨[], World.ownsRow_nil _ _ _ _, fun j u bs hu => by simp at hu⟩
theorem OFs.keep {base : Nat} {v : Value} {f : List (List Int)} (h : OFs w base H v f) (k : Keep F w w') (h1 : ∀ g, v.ownBlock = some g → ¬ F g) (hF : ∀ b, H b → b < w.heap.size → ¬ F b) : OFs w' base H v f := by
  obtain ⟨vs, ho, hv⟩ := h.out
  exact ⟨vs, own_keep ho k h1, fun j u bs hu hb => (hv j u bs hu hb).keep k hF⟩
theorem OFs.nil {base : Nat} {v : Value} {f : List (List Int)} (h : OFs w base H v f) (k : Keep Nil w w') : OFs w' base H v f := h.keep k (fun _ _ h => h) (fun _ _ _ h => h)
/-- One more, by what append leaves. -/
theorem OFs.push {base : Nat} {v v' u : Value} {f : List (List Int)} {bs : List Int} {vs : List Value} {w1 : World} (hv : ∀ (j : Nat) (u : Value) (bs : List Int), vs[j]? = some u → f[j]? = some bs → BsAt w1 H u bs) (hl : vs.length = f.length)
    (hu : BsAt w1 H u bs) (ho : w'.ownsRow base 161 1 v' (f.length + 1) (vs ++ [u])) (k : Keep (fun b => v.ownBlock = some b) w1 w') (hH : ∀ g, v.ownBlock = some g → ∀ cs fr, ¬ w1.heap[g]? = some (.cells cs 5 fr)) : OFs w' base H v' (f ++ [bs]) := by
  have key : ∀ {u : Value} {bs : List Int}, BsAt w1 H u bs → BsAt w' H u bs := fun {u bs} h => by
    obtain ⟨A, c, e, hc, hr, hi, ht⟩ := h.out
    have hno : ∀ a, A = some a → ¬ v.ownBlock = some a.block := fun a e2 e3 => by
      obtain ⟨cs, fr, hb⟩ := ht a e2
      exact hH _ e3 cs fr hb
    refine ⟨A, c, e, hc, hr.keep k (fun ad e2 _ => hno ad e2), hi.keep k, fun a e2 => ?_⟩
    obtain ⟨cs, fr, hb⟩ := ht a e2
    exact ⟨cs, fr, (k.same _ (hi a e2).2 (hno a e2)).trans hb⟩
  refine ⟨vs ++ [u], by rw [List.length_append]; exact ho, fun j x c hx hc => ?_⟩
  by_cases hj : j < f.length
  · rw [List.getElem?_append_left (by omega)] at hx
    rw [List.getElem?_append_left hj] at hc
    exact key (hv j x c hx hc)
  · rw [List.getElem?_append_right (by omega)] at hx hc
    rw [hl] at hx
    have h0 : j - f.length = 0 := by
      have := (List.getElem?_eq_some_iff.1 hc).1
      simp at this
      omega
    rw [h0] at hx hc
    simp only [List.getElem?_cons_zero, Option.some.injEq] at hx hc
    subst hx hc
    exact key hu
/-- What turns one block that is no block of bytes, nor of slices of bytes. -/
theorem BsAt.far {v : Value} {bs : List Int} {g : Nat} (h : BsAt w H v bs) (k : Keep (fun b => b = g) w w') (hg : ∀ cs fr, ¬ w.heap[g]? = some (.cells cs 5 fr)) : BsAt w' H v bs := by
  obtain ⟨A, c, e, hc, hr, hi, ht⟩ := h.out
  have hno : ∀ a, A = some a → ¬ a.block = g := fun a e2 e3 => by
    obtain ⟨cs, fr, hb⟩ := ht a e2
    exact hg cs fr (by rw [← e3]; exact hb)
  refine ⟨A, c, e, hc, hr.keep k (fun ad e2 _ => hno ad e2), hi.keep k, fun a e2 => ?_⟩
  obtain ⟨cs, fr, hb⟩ := ht a e2
  exact ⟨cs, fr, (k.same _ (hi a e2).2 (hno a e2)).trans hb⟩
theorem FsAt.far {v : Value} {f : List (List Int)} {g : Nat} (h : FsAt w H v f) (k : Keep (fun b => b = g) w w') (hg : ∀ cs fr, ¬ w.heap[g]? = some (.cells cs 5 fr)) (hg2 : ∀ cs fr, ¬ w.heap[g]? = some (.cells cs 161 fr)) : FsAt w' H v f := by
  obtain ⟨A, c, vs, e, hl, hr, hi, ht, hv⟩ := h.out
  have hno : ∀ a, A = some a → ¬ a.block = g := fun a e2 e3 => by
    obtain ⟨cs, fr, hb⟩ := ht a e2
    exact hg2 cs fr (by rw [← e3]; exact hb)
  refine ⟨A, c, vs, e, hl, hr.keep k (fun ad e2 _ => hno ad e2), hi.keep k, fun a e2 => ?_, fun j u bs hu hb => (hv j u bs hu hb).far k hg⟩
  obtain ⟨cs, fr, hb⟩ := ht a e2
  exact ⟨cs, fr, (k.same _ (hi a e2).2 (hno a e2)).trans hb⟩
theorem FlAt.far {v : Value} {fs : List (ByteArray × AFile)} {g : Nat} (h : FlAt w H v fs) (k : Keep (fun b => b = g) w w') (hg : ∀ cs t fr, w.heap[g]? = some (.cells cs t fr) → t ≠ 5 ∧ t ≠ 161 ∧ t ≠ 55) : FlAt w' H v fs := by
  obtain ⟨A, c, rs, e, hl, hr, hi, ht, hv⟩ := h.out
  have hno : ∀ a, A = some a → ¬ a.block = g := fun a e2 e3 => by
    obtain ⟨cs, fr, hb⟩ := ht a e2
    exact (hg cs _ fr (by rw [← e3]; exact hb)).2.2 rfl
  refine ⟨A, c, rs, e, hl, hr.keep k (fun ad e2 _ => hno ad e2), hi.keep k, fun a e2 => ?_, fun j u f hu hb => (hv j u f hu hb).far k (fun cs fr hc => (hg cs _ fr hc).1 rfl) (fun cs fr hc => (hg cs _ fr hc).2.1 rfl)⟩
  obtain ⟨cs, fr, hb⟩ := ht a e2
  exact ⟨cs, fr, (k.same _ (hi a e2).2 (hno a e2)).trans hb⟩
theorem fileCells_app (fs gs : List (ByteArray × AFile)) (rs ts : List Value) (h : rs.length = fs.length) : fileCells (fs ++ gs) (rs ++ ts) = fileCells fs rs ++ fileCells gs ts := by
  unfold fileCells
  rw [List.zip_append h.symm, List.flatMap_append]
theorem fileCells_at : ∀ (fs : List (ByteArray × AFile)) (rs : List Value) (j : Nat) (f : ByteArray × AFile) (r : Value), fs[j]? = some f → rs[j]? = some r →
    (fileCells fs rs)[j * 3]? = some (.string f.1) ∧ (fileCells fs rs)[j * 3 + 1]? = some (.bool f.2.done) ∧ (fileCells fs rs)[j * 3 + 2]? = some r
  | [], _, _, _, _, h, _ => by simp at h
  | _ :: _, [], _, _, _, _, h => by simp at h
  | f :: fs, r :: rs, 0, f', r', h1, h2 => by
    simp only [List.getElem?_cons_zero, Option.some.injEq] at h1 h2
    subst h1 h2
    exact ⟨rfl, rfl, rfl⟩
  | f :: fs, r :: rs, j + 1, f', r', h1, h2 => by
    have ih := fileCells_at fs rs j f' r' (by simpa using h1) (by simpa using h2)
    have e : fileCells (f :: fs) (r :: rs) = .string f.1 :: .bool f.2.done :: r :: fileCells fs rs := rfl
    rw [e, show (j + 1) * 3 = j * 3 + 1 + 1 + 1 from by omega, show j * 3 + 1 + 1 + 1 + 1 = (j * 3 + 1) + 1 + 1 + 1 from by omega, show j * 3 + 1 + 1 + 1 + 2 = (j * 3 + 2) + 1 + 1 + 1 from by omega]
    simpa using ih
/-- A row of one's own of files. -/
structure OFl (w : World) (base : Nat) (H : Nat → Prop) (v : Value) (fs : List (ByteArray × AFile)) : Prop where mk ::
  out : ∃ rs, rs.length = fs.length ∧ w.ownsRow base 55 3 v fs.length (fileCells fs rs) ∧ ∀ (j : Nat) (r : Value) (f : ByteArray × AFile), rs[j]? = some r → fs[j]? = some f → FsAt w H r f.2.blocks
theorem OFl.fl {base : Nat} {v : Value} {fs : List (ByteArray × AFile)} (h : OFl w base H v fs) (hH : ∀ g, v.ownBlock = some g → H g) : FlAt w H v fs := by
  obtain ⟨rs, hl, ho, hv⟩ := h.out
  have hr := ho
  rcases ho.2 with ⟨e, h0⟩ | ⟨g, cap, cur, e, hb, hh, hle, hm, hs, ht⟩
  · subst e
    exact ⟨none, 0, rs, by rw [h0], hl, own_rd hr, In_.none_, (fun a e => by cases e), hv⟩
  · subst e
    exact ⟨some ⟨g, 0, none⟩, cap, rs, rfl, hl, own_rd hr, (fun a e => by injection e with e; subst e; exact ⟨hH g rfl, lt_of_heap hh, rfl⟩), (fun a e => by injection e with e; subst e; exact ⟨_, _, hh⟩), hv⟩
theorem OFl.nil_ (w : World) (base : Nat) (H : Nat → Prop) : OFl w base H (.slice none 0 0) [] := ⟨[], rfl, World.ownsRow_nil _ _ _ _, fun j u bs hu => by simp at hu⟩
theorem OFl.keep {base : Nat} {v : Value} {fs : List (ByteArray × AFile)} (h : OFl w base H v fs) (k : Keep F w w') (h1 : ∀ g, v.ownBlock = some g → ¬ F g) (hF : ∀ b, H b → b < w.heap.size → ¬ F b) : OFl w' base H v fs := by
  obtain ⟨rs, hl, ho, hv⟩ := h.out
  exact ⟨rs, hl, own_keep ho k h1, fun j u bs hu hb => (hv j u bs hu hb).keep k hF⟩
theorem OFl.nil {base : Nat} {v : Value} {fs : List (ByteArray × AFile)} (h : OFl w base H v fs) (k : Keep Nil w w') : OFl w' base H v fs := h.keep k (fun _ _ h => h) (fun _ _ _ h => h)
theorem OFl.mono {base : Nat} {v : Value} {fs : List (ByteArray × AFile)} (h : OFl w base H v fs) (hs : ∀ b, H b → b < w.heap.size → H' b) : OFl w base H' v fs := by
  obtain ⟨rs, hl, ho, hv⟩ := h.out
  exact ⟨rs, hl, ho, fun j u bs hu hb => (hv j u bs hu hb).mono hs⟩
/-- One more, by what append leaves. -/
theorem OFl.push {base : Nat} {v v' r : Value} {fs : List (ByteArray × AFile)} {f : ByteArray × AFile} {rs : List Value} {w1 : World} (hv : ∀ (j : Nat) (r : Value) (f : ByteArray × AFile), rs[j]? = some r → fs[j]? = some f → FsAt w1 H r f.2.blocks) (hl : rs.length = fs.length)
    (ho0 : w1.ownsRow base 55 3 v fs.length (fileCells fs rs)) (hr : FsAt w1 H r f.2.blocks) (ho : w'.ownsRow base 55 3 v' (fs.length + 1) (fileCells fs rs ++ [.string f.1, .bool f.2.done, r])) (k : Keep (fun b => v.ownBlock = some b) w1 w') : OFl w' base H v' (fs ++ [f]) := by
  have key : ∀ {r : Value} {f : List (List Int)}, FsAt w1 H r f → FsAt w' H r f := fun {r f} h => by
    rcases ho0.2 with ⟨e, _⟩ | ⟨g, cap, cur, e, _, hh, _⟩
    · subst e
      exact h.nil (k.mono fun b _ hb => by simp [Value.ownBlock] at hb)
    · subst e
      refine h.far (g := g) (k.mono fun b _ hb => ?_) (fun cs fr hb => ?_) (fun cs fr hb => ?_)
      · have : g = b := by simpa [Value.ownBlock] using hb
        exact this.symm
      · rw [hb] at hh; injection hh with hh; injection hh with _ hh; exact absurd hh (by decide)
      · rw [hb] at hh; injection hh with hh; injection hh with _ hh; exact absurd hh (by decide)
  refine ⟨rs ++ [r], by simp [hl], ?_, fun j x c hx hc => ?_⟩
  · rw [List.length_append, fileCells_app _ _ _ _ hl]
    exact ho
  · by_cases hj : j < fs.length
    · rw [List.getElem?_append_left (by omega)] at hx
      rw [List.getElem?_append_left hj] at hc
      exact key (hv j x c hx hc)
    · rw [List.getElem?_append_right (by omega)] at hx hc
      rw [hl] at hx
      have h0 : j - fs.length = 0 := by
        have := (List.getElem?_eq_some_iff.1 hc).1
        simp at this
        omega
      rw [h0] at hx hc
      simp only [List.getElem?_cons_zero, Option.some.injEq] at hx hc
      subst hx hc
      exact key hr
end
end Go.Proofs.YtadipinnbehhhaaGreatDoor
namespace Go.Proofs.YtadipinnbehhhaaGreatDoor
open Go.RowKit

set_option maxRecDepth 100000 in
set_option maxHeartbeats 2000000 in
theorem clone_rd (ad : Addr) (c : Nat) (bs : List Int) (w : World) (hr : Rd w (some ad) (by8 bs)) (h2 : bs.length ≤ 65536) :
    Calls Tryz.prog 71 #[.slice (some ad) bs.length c] w fun e w' => ∃ u, e = .returned u ∧ BsAt w' (fun b => w.heap.size ≤ b) u bs ∧ Keep Nil w w' := by
  obtain ⟨i0, hi0, hz0, hz1, hz2⟩ := info_parts info_u8
  have HR := Hid.intro_ hr
  clear hr
  have hmade := World.ownsRow_made (base := w.heap.size) (w := w) (e := 5) (size := 1) #[] 0 (Nat.le_refl _) (Nat.zero_le _) rfl
  have HM := Hid.intro_ hmade
  have hsrc : Hid (∀ w', Keep Nil w w' → ∀ (j : Nat) (u : Value), (by8 bs)[j]? = some u → w'.cell? (ad.add j) = some u) := fun w' k j u hu => by
    obtain ⟨ad2, e, hc⟩ := (HR.out.keep k (fun _ _ _ h => h)) j u hu
    injection e with e
    subst e
    exact hc
  have h1c := Hid.intro_ (show ∀ v ∈ by8 bs, v.oneCell' = true by
    intro v hv
    obtain ⟨x, _, rfl⟩ := List.mem_map.1 hv
    rfl)
  clear hmade
  have heq := fun w => Lib.run_eql_slice_nil (P := Tryz.prog) w 161 5 (some ad) bs.length c 0 0 Tryz.underlying161
  go_enter Tryz.func71, Tryz.ntmps71
  go_wp2_with (at_builtin; refine wpList_append_own_at _ rfl (.tmp 5) (.tmp 6) 161 rfl w.heap.size 5 i0 (.int .u8 0) 1 1 Tryz.underlying161 hi0 hz0 hz1 hz2 rfl (by decide) (.slice (some ⟨w.heap.size, 0, none⟩) 0 0) 0 [] (by simp [Act.eval]) HM.out ad bs.length c (by8 bs) (by simp [Act.eval]) (by simp [by8_len]) (hsrc.out _ ((Keep.refl Nil w).alloc _)) h1c.out (by unfold maxLen; omega) (by omega) (by simp) ?_; intro v1 w1 hown1 hgr1 _ hat1)
  have k1 : Keep Nil w w1 := ((Keep.refl Nil w).alloc _).trans (Keep.of_grown hgr1) (fun b hb e => by
    have : w.heap.size = b := by simpa [Value.ownBlock] using e
    omega)
  have HO := Hid.intro_ hown1
  clear hown1 hgr1
  go_wp2
  go_ret
  refine ⟨v1, rfl, BsAt.of_own (n := 0 + bs.length) (by simpa using HO.out) (by simp) (fun g hg => (HO.out.lt g hg).1), k1⟩
theorem clone_any (H : Nat → Prop) (v : Value) (bs : List Int) (w : World) (h : BsAt w H v bs) (h1 : 1 ≤ bs.length) (h2 : bs.length ≤ 65536) :
    Calls Tryz.prog 71 #[v] w fun e w' => ∃ u, e = .returned u ∧ BsAt w' (fun b => w.heap.size ≤ b) u bs ∧ Keep Nil w w' := by
  obtain ⟨A, c, rfl, hc, hr, hi, ht⟩ := h.out
  obtain ⟨x, hx⟩ : ∃ x, (by8 bs)[0]? = some x := ⟨_, List.getElem?_eq_getElem (by rw [by8_len]; omega)⟩
  obtain ⟨ad, rfl, _⟩ := hr 0 x hx
  exact clone_rd ad c bs w hr h2
def newD (block blocks : Int) : DSt := { on := true, block := block, room := blocks, files := [], trs := [], calls := 0, reads := 0, appends := 0, faults := 0, full := 0, used := 0, most := 0 }
set_option maxRecDepth 100000 in
set_option maxHeartbeats 2000000 in
theorem clone_tr_nil (w : World) :
    Calls Tryz.prog 181 #[.slice none 0 0] w fun e w' => e = .returned (.slice none 0 0) ∧ w' = w := by
  have heq := fun w => Lib.run_eql_slice_nil (P := Tryz.prog) w 131 290 none 0 0 0 0 Tryz.underlying131
  go_enter Tryz.func181, Tryz.ntmps181
  go_wp2
  go_ret
  exact ⟨rfl, rfl⟩
set_option maxRecDepth 100000 in
set_option maxHeartbeats 2000000 in
theorem fits_ok (block blocks : Int) (v : Value) (w : World) (_hv : v.oneCell' = true) (h1 : 64 ≤ block) (h2 : block ≤ 65536) (h3 : block % 32 = 0) (h4 : 0 ≤ blocks) (h5 : blocks ≤ 1099511627776) :
    Calls Tryz.prog 180 #[.agg #[.int .i64 block, .int .i64 blocks, v]] w fun e w' => e = .returned (.bool true) ∧ Keep Nil w w' := by
  have e3 : (block % 32 == 0) = true := by simpa using h3
  go_enter Tryz.func180, Tryz.ntmps180
  go_wp2
  go_ret
  exact ⟨rfl, (Keep.refl Nil w).alloc _⟩
theorem heap_new (w : World) (o : Obj) : (w.alloc o).heap[w.heap.size]? = some o := by unfold World.alloc; simp
theorem new_disk {block blocks : Int} {w w1 w2 : World} (h1 : 64 ≤ block) (h2 : block ≤ 65536) (h4 : 0 ≤ blocks) (h5 : blocks ≤ 1099511627776)
    (hm : w2.heap[w1.heap.size]? = some (.map #[] 0)) (hb : Blk w2 (w1.heap.size + 1) 153 ((newD block blocks).cells { mb := w1.heap.size, reps := [], tb := none, tc := 0 })) (hl : w.heap.size ≤ w1.heap.size) (hl2 : w1.heap.size + 1 < w2.heap.size) :
    DiskAt w2 (fun b => w.heap.size ≤ b ∧ b < w2.heap.size) (w1.heap.size + 1) (newD block blocks) { mb := w1.heap.size, reps := [], tb := none, tc := 0 } := {
  blk := hb
  fd := ⟨by omega, hl2⟩
  fm := ⟨hl, by show w1.heap.size < _; omega⟩
  map := ⟨#[], 0, hm, rfl, Go.MapKept.stamped_empty 0⟩
  len := rfl
  fbs := List.nodup_nil
  file := fun i f r hf => by simp [newD] at hf
  row := fun i j r s g hr => by simp at hr
  trs := fun j u hu => by simp [newD, trCells] at hu
  ftr := fun b e => by cases e
  tcl := Nat.zero_le _
  tcm := Nat.zero_le _
  lt := fun b hb => hb.2
  ok := ⟨h1, h2, h4, h5, rfl, h4, h4, Int.le_refl _, fun f hf => by simp [newD] at hf, fun f hf => by simp [newD] at hf, List.nodup_nil⟩ }
set_option maxRecDepth 100000 in
set_option maxHeartbeats 2000000 in
theorem new_ok (block blocks : Int) (w : World) (h1 : 64 ≤ block) (h2 : block ≤ 65536) (h3 : block % 32 = 0) (h4 : 0 ≤ blocks) (h5 : blocks ≤ 1099511627776) :
    Calls Tryz.prog 120 #[.agg #[.int .i64 block, .int .i64 blocks, .slice none 0 0]] w fun e w' => ∃ d mb, e = .returned (.tuple #[.pointer (some ⟨d, 0, none⟩), .int .i64 0]) ∧ DiskAt w' (fun b => w.heap.size ≤ b ∧ b < w'.heap.size) d (newD block blocks) { mb := mb, reps := [], tb := none, tc := 0 } ∧ w'.heap[mb]? = some (.map #[] 0) ∧ Keep Nil w w' := by
  have hf := fun W => fits_ok block blocks (.slice none 0 0) W rfl h1 h2 h3 h4 h5
  have HF := Hid.intro_ hf
  clear hf
  go_enter Tryz.func120, Tryz.ntmps120
  have hmm := @run_makeMap Tryz.prog
  go_wp2_with (go_at_call 180; refine (HF.out _).mono ?_; rintro e w1 ⟨rfl, k1⟩)
  have b1 := (Blk.new w 136 #[.int .i64 block, .int .i64 blocks, .slice none 0 0]).keep k1 (fun h => h)
  have z0 : w1.cell? ⟨w.heap.size, 0, none⟩ = some (.int .i64 block) := b1.at_ 0
  have z1 : w1.cell? ⟨w.heap.size, 1, none⟩ = some (.int .i64 blocks) := b1.at_ 1
  have z2 : w1.cell? ⟨w.heap.size, 2, none⟩ = some (.slice none 0 0) := b1.at_ 2
  have n0 := World.new_ne w1 _ z0
  have n1 := World.new_ne w1 _ z1
  have n2 := World.new_ne w1 _ z2
  have l0 := b1.lt
  go_region_held3 (fun w' => w'.cell? ⟨w.heap.size, 0, none⟩ = some (.int .i64 block) ∧ w'.cell? ⟨w.heap.size, 1, none⟩ = some (.int .i64 blocks) ∧ w'.cell? ⟨w.heap.size, 2, none⟩ = some (.slice none 0 0))
    (first | exact ⟨z0, z1, z2⟩ | go_keep)
    ((go_at_call 181; refine (clone_tr_nil _).mono ?_; rintro e w' ⟨rfl, hw⟩; obtain rfl := hw.symm))
  all_goals
    go_wp2
    go_ret2
    refine ⟨w1.heap.size + 1, w1.heap.size, rfl, ?_, ?_, ?_⟩
    · refine new_disk (w1 := w1) h1 h2 h4 h5 ?_ ?_ ?_ ?_
      · exact (Below.heap_alloc _ _ _ (by simp)).trans (heap_new w1 _)
      · exact Blk.new_at _ _ _ (by simp)
      · exact Nat.le_of_lt l0
      · simp
    · exact (Below.heap_alloc _ _ _ (by simp)).trans (heap_new w1 _)
    · exact ((Keep.refl Nil w).alloc _).then_ (k1.then_ (((Keep.refl Nil w1).alloc _).alloc _).drew)
end Go.Proofs.YtadipinnbehhhaaGreatDoor
