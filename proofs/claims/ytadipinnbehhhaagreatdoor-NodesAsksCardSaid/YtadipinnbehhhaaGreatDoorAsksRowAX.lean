/- NodesAsks: the law's room between its calls. NodesAsks: a word out of what the disk has counted. -/
import Derived.Test.YtadipinnbehhhaaGreatDoorAsksRowAT
import Derived.Test.YtadipinnbehhhaaGreatDoorAsksRowAU
import Derived.Test.YtadipinnbehhhaaGreatDoorAsksRowAW
import Derived.Test.YtadipinnbehhhaaGreatDoorAsksRowAQ
import Derived.Test.YtadipinnbehhhaaGreatDoorAsksRowAS
namespace Go.Proofs.YtadipinnbehhhaaGreatDoor
open Go.RowKit

theorem readsN_reads (D : DSt) (j : Nat) : wrap64 ((DSt.readsN j D).reads - D.reads) = wrap64 (j : Int) := by
  induction j with
  | zero =>
    have e : (DSt.readsN 0 D).reads = D.reads := rfl
    rw [e]
    unfold wrap64
    omega
  | succ j ih =>
    have e : (DSt.readsN (j + 1) D).reads = wrap64 ((DSt.readsN j D).reads + 1) := rfl
    rw [e]
    unfold wrap64 at *
    omega
/-- What holds of the law's room. -/
structure AkG (c : Cx) (d e : Dg) (s0 : RSt) : Prop where
  f : AkP c (akFs (recsD d) (recsD e) c.block) nmF d s0
  g : AkP c (akFs (recsD d) (recsD e) c.block) nmG e s0
  quiet : QuietD s0.D
  fit : fit c.block = c.K
  pos : 0 < c.K
  l1 : (recsD d).length ≤ 268435456
  l2 : (recsD e).length ≤ 268435456
/-- The room between two calls; so many reads have been counted. -/
structure AkOn (c : Cx) (G0 : Nat → Prop) (s0 : RSt) (Y : World) (b : Int) (w : World) : Prop where mk ::
  out : ∃ G s j, Stp Y G0 w G ∧ Went j 0 s0 s ∧ RmAt c w G s ∧ b = s.D.reads
/-- Behind a call that reads J blocks at most. -/
structure AkTo (c : Cx) (G0 : Nat → Prop) (s0 : RSt) (Y : World) (b : Int) (J : Nat) (w : World) : Prop where mk ::
  out : ∃ nb, AkOn c G0 s0 Y nb w ∧ wrap64 (nb - b) ≤ J
section
variable {c : Cx} {d e : Dg} {s0 : RSt} {G0 : Nat → Prop} {Y w w' : World} {b : Int} {J : Nat}
theorem AkOn.start (h : RmAt c Y G0 s0) : AkOn c G0 s0 Y s0.D.reads Y := ⟨G0, s0, 0, Stp.refl _ _, Went.refl _, h, rfl⟩
theorem AkOn.nil (h : AkOn c G0 s0 Y b w) (k : Keep Nil w w') : AkOn c G0 s0 Y b w' := by
  obtain ⟨G, s, j, h1, h2, h3, h4⟩ := h.out
  exact ⟨G, s, j, h1.then_nil k, h2, h3.nil k, h4⟩
theorem AkTo.nil (h : AkTo c G0 s0 Y b J w) (k : Keep Nil w w') : AkTo c G0 s0 Y b J w' := by
  obtain ⟨nb, h1, h2⟩ := h.out
  exact ⟨nb, h1.nil k, h2⟩
theorem AkOn.keep (h : AkOn c G0 s0 Y b w) : Keep G0 Y w := by
  obtain ⟨G, s, j, h1, _⟩ := h.out
  exact h1.keep
theorem AkTo.keep (h : AkTo c G0 s0 Y b J w) : Keep G0 Y w := by
  obtain ⟨nb, h1, _⟩ := h.out
  exact h1.keep
theorem AkOn.to_ {G : Nat → Prop} {s : RSt} {j : Nat} (h1 : Stp Y G0 w G) (h2 : Went j 0 s0 s) (h4 : b = s.D.reads) (hJ : J ≤ 1073741824) (t : WentTo c G J 0 s w w') : AkTo c G0 s0 Y b J w' := by
  obtain ⟨j2, s2, hj, hw, G2, hr, st⟩ := t
  refine ⟨s2.D.reads, ⟨G2, s2, j2 + j, h1.trans st, (h2.trans hw).of_eq rfl (by omega), hr, rfl⟩, ?_⟩
  have := readsN_reads s.D j2
  rw [h4, hw.D, this]
  unfold wrap64
  omega
theorem AkOn.counts (h : AkOn c G0 s0 Y b w) :
    Calls Tryz.prog 37 #[.pointer (some ⟨c.d, 0, none⟩)] w fun x w' => ∃ u0 u2 u3 u4 u5 u6 : Int, x = .returned (.agg #[.int .i64 u0, .int .i64 b, .int .i64 u2, .int .i64 u3, .int .i64 u4, .int .i64 u5, .int .i64 u6]) ∧ AkOn c G0 s0 Y b w' := by
  obtain ⟨G, s, j, h1, h2, h3, h4⟩ := h.out
  subst h4
  obtain ⟨F, e, hd⟩ := h3.out
  obtain ⟨R, hD⟩ := hd.disk
  exact (counts_any c.d s.D R F w hD).mono fun x w1 ⟨he, k⟩ => ⟨_, _, _, _, _, _, he, AkOn.nil ⟨G, s, j, h1, h2, h3, rfl⟩ k⟩
theorem AkOn.kept {H : Nat → Prop} {v : Value} (P : AkG c d e s0) (h : AkOn c G0 s0 Y b w) (hs : StAt w H (.agg #[.int .i64 c.block, v]) c.block (akFs (recsD d) (recsD e) c.block)) :
    Calls Tryz.prog 14 #[.agg #[.pointer (some ⟨c.d, 0, none⟩), .pointer (some ⟨c.p, 0, none⟩), .pointer (some ⟨c.k, 0, none⟩), .int .i64 c.block, v]] w fun x w' => x = .returned (.bool true) ∧ AkOn c G0 s0 Y b w' := by
  obtain ⟨G, s, j, h1, h2, h3, h4⟩ := h.out
  refine (kept_rm h3 hs (h2.calm P.f.calm) (List.Perm.refl _) rg_rises rg_short ak_bytes (ak_few P.fit P.pos P.l1 P.l2) (by rw [h2.hand, h2.parts, P.f.hand, P.f.parts]; rfl)).mono fun x w1 ⟨he, G2, hr2, st⟩ => ⟨he, ⟨G2, s, j, h1.trans st, h2, hr2, h4⟩⟩
theorem AkOn.quiet {v : Value} (P : AkG c d e s0) (h : AkOn c G0 s0 Y b w) :
    Calls Tryz.prog 32 #[.agg #[.pointer (some ⟨c.d, 0, none⟩), .pointer (some ⟨c.p, 0, none⟩), .pointer (some ⟨c.k, 0, none⟩), .int .i64 c.block, v]] w fun x w' => x = .returned (.bool true) ∧ Keep Nil w w' := by
  obtain ⟨G, s, j, h1, h2, h3, h4⟩ := h.out
  exact quiet_rm h3 (by rw [h2.D]; exact P.quiet.readsN j)
theorem nblk_sm (P : AkG c d e s0) : nblk c.K (recsD d).length + 1 ≤ 536870912 ∧ nblk c.K (recsD e).length ≤ 268435456 := by
  have h1 := nblk_le c.K (recsD d).length P.pos
  have h2 := nblk_le c.K (recsD e).length P.pos
  have := P.l1
  have := P.l2
  omega
theorem AkOn.eval_no (P : AkG c d e s0) (h : AkOn c G0 s0 Y b w) (B : Option Addr) (l : List Bool) (bc : Nat) (hn : ¬ l.length = d.v) (hl : l.length < 9223372036854775808) :
    Calls Tryz.prog 36 #[.pointer (some ⟨c.k, 0, none⟩), .string nmF, .slice B l.length bc] w fun x w' => x = .returned (.tuple #[.bool false, .int .i64 1]) ∧ AkTo c G0 s0 Y b (nblk c.K (recsD d).length + 1) w' := by
  obtain ⟨G, s, j, h1, h2, h3, h4⟩ := h.out
  have hs := nblk_sm P
  refine (eval_bad (P.f.step h2) h3 B l bc hn hl).mono fun x w1 ⟨he, t⟩ => ⟨he, AkOn.to_ h1 h2 h4 (by omega) (t.mono (by omega))⟩
theorem AkOn.eval_yes (P : AkG c d e s0) (h : AkOn c G0 s0 Y b w) (B : Option Addr) (l : List Bool) (bc : Nat) (hn : l.length = d.v) (hB : Rd w B (boolsV l)) (hBs : l ≠ [] → ∀ a, B = some a → a.spot = none) (hBG : l ≠ [] → ∀ a, B = some a → ¬ G0 a.block ∧ a.block < Y.heap.size) :
    Calls Tryz.prog 36 #[.pointer (some ⟨c.k, 0, none⟩), .string nmF, .slice B l.length bc] w fun x w' => x = .returned (.tuple #[.bool (d.eval l), .int .i64 0]) ∧ AkTo c G0 s0 Y b (nblk c.K (recsD d).length + 1) w' := by
  obtain ⟨G, s, j, h1, h2, h3, h4⟩ := h.out
  have hs := nblk_sm P
  refine (eval_good (P.f.step h2) h3 B l bc hn hB hBs (fun hne a ha => ?_)).mono fun x w1 ⟨he, t⟩ => ⟨he, AkOn.to_ h1 h2 h4 (by omega) t⟩
  obtain ⟨q1, q2⟩ := hBG hne a ha
  exact ⟨h1.off q2 q1, Nat.lt_of_lt_of_le q2 h1.keep.size⟩
theorem AkOn.width (P : AkG c d e s0) (h : AkOn c G0 s0 Y b w) :
    Calls Tryz.prog 39 #[.pointer (some ⟨c.k, 0, none⟩), .string nmF] w fun x w' => x = .returned (.tuple #[.int .i64 d.width, .int .i64 0]) ∧ AkTo c G0 s0 Y b (nblk c.K (recsD d).length + 1) w' := by
  obtain ⟨G, s, j, h1, h2, h3, h4⟩ := h.out
  have hs := nblk_sm P
  exact (width_rm (P.f.step h2) h3).mono fun x w1 ⟨he, t⟩ => ⟨he, AkOn.to_ h1 h2 h4 (by omega) t⟩
/-- What Equal of the two files answers. -/
structure EqAns (c : Cx) (d e : Dg) (G0 : Nat → Prop) (s0 : RSt) (Y : World) (b : Int) (J : Nat) (x : Ending) (w' : World) : Prop where mk ::
  out : ∃ bo n, x = .returned (.tuple #[.bool bo, .int .i64 n]) ∧ (¬ d.v = e.v → bo = false ∧ n = 4) ∧ (d.v = e.v → n = 0 ∧ (bo = true ↔ d = e)) ∧ AkTo c G0 s0 Y b J w'
theorem AkOn.equal (P : AkG c d e s0) (h : AkOn c G0 s0 Y b w) :
    Calls Tryz.prog 41 #[.pointer (some ⟨c.k, 0, none⟩), .string nmF, .string nmG] w (EqAns c d e G0 s0 Y b (nblk c.K (recsD d).length + nblk c.K (recsD e).length + 2)) := by
  obtain ⟨G, s, j, h1, h2, h3, h4⟩ := h.out
  have hs := nblk_sm P
  exact (equal_rm (P.f.step h2) (P.g.step h2) h3).mono fun x w1 hp => by
    obtain ⟨bo, n, e1, e2, e3, t⟩ := hp.out
    exact ⟨bo, n, e1, e2, e3, AkOn.to_ h1 h2 h4 (by omega) t⟩
theorem AkOn.self (P : AkG c d e s0) (h : AkOn c G0 s0 Y b w) :
    Calls Tryz.prog 41 #[.pointer (some ⟨c.k, 0, none⟩), .string nmF, .string nmF] w fun x w' => x = .returned (.tuple #[.bool true, .int .i64 0]) ∧ AkTo c G0 s0 Y b (nblk c.K (recsD d).length + nblk c.K (recsD d).length + 2) w' := by
  obtain ⟨G, s, j, h1, h2, h3, h4⟩ := h.out
  have hs := nblk_sm P
  exact (equal_rm (P.f.step h2) (P.f.step h2) h3).mono fun x w1 hp => by
    obtain ⟨bo, n, e1, e2, e3, t⟩ := hp.out
    obtain ⟨e4, e5⟩ := e3 rfl
    have e6 : bo = true := e5.2 rfl
    exact ⟨by rw [e1, e4, e6], AkOn.to_ h1 h2 h4 (by omega) t⟩
end
end Go.Proofs.YtadipinnbehhhaaGreatDoor
namespace Go.Proofs.YtadipinnbehhhaaGreatDoor
open Go.RowKit

theorem fld_counts (u0 u1 u2 u3 u4 u5 u6 : Int) (w : World) : (Instr.field 94 (.agg #[.int .i64 u0, .int .i64 u1, .int .i64 u2, .int .i64 u3, .int .i64 u4, .int .i64 u5, .int .i64 u6]) 1).run Tryz.prog w = .ok (.int .i64 u1) w := by
  have u3 := Tryz.underlying3
  have a3 := Tryz.isAgg3
  have z3 := Tryz.sizeOf3
  unfold Instr.field
  simp only [Sem.run_bind, run_underlying Tryz.underlying94, Result.andThen_ok]
  go_simp
  unfold asAgg
  go_simp
end Go.Proofs.YtadipinnbehhhaaGreatDoor
