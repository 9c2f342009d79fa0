/- NodesReads: the law's room, under way. NodesReads: the law's walk. What every row of this seat asks: the listed variables opened; a law's row from a walk that leaves all that was there as it was. What the rows of this seat share: numbers opened; the witness: the heap that the program's start leaves. -/
import Derived.Test.YtadipinnbehhhaaGreatDoorRows
import Derived.ProofKit
import Derived.LaidMore
import Derived.OpenShut
import Derived.LaidLaws
import Derived.Stop.Joined
import Derived.Stop.LaidErr
import Derived.Deep.Slices
import Derived.Test.YtadipinnbehhhaaGreatDoorReadsRowAS
import Derived.Test.YtadipinnbehhhaaGreatDoorReadsRowAT
import Derived.Test.YtadipinnbehhhaaGreatDoorReadsRowAU
import Derived.Test.YtadipinnbehhhaaGreatDoorReadsRowAD
namespace Go.Proofs.YtadipinnbehhhaaGreatDoor
open Go.RowKit

/-- What holds of the room as it was opened. -/
structure RdG (c : Cx) (how : Int) (L : List R4) (s0 : RSt) : Prop where
  calm : Calm s0.D c.block (rdFs (rdFile how L c.block) c.block)
  S : s0.S = PSt.new (rdLim how L c.K)
  oks : ∀ r ∈ L, r.Ok
  len : L.length ≤ 268435456
  quiet : QuietD s0.D
  fit : fit c.block = c.K
  pos : 0 < c.K
/-- The room between two calls. -/
structure RmOn (c : Cx) (G0 : Nat → Prop) (s0 : RSt) (Y w : World) : Prop where mk ::
  out : ∃ G s j, Stp Y G0 w G ∧ Went j 0 s0 s ∧ RmAt c w G s
/-- The room with a cursor. -/
structure CuOn (c : Cx) (G0 : Nat → Prop) (s0 : RSt) (Y : World) (cb : Nat) (L : List R4) (up : Bool) (v r m : Nat) (l : List N3) (bad : Bool) (w : World) : Prop where mk ::
  out : ∃ b q G s j, Stp Y G0 w G ∧ Went j c.K s0 s ∧ LiveC c nmF L up v r m cb b w G s q l bad
def rdN2 (how : Int) (L : List R4) : Int := if rdErr how L = 0 then ansN (openedL L) else rdErr how L
section
variable {c : Cx} {w w' Y : World} {G0 : Nat → Prop} {s0 : RSt} {how : Int} {L : List R4} {v r m cb : Nat} {up bad : Bool} {l : List N3}

theorem RmOn.start (h : RmAt c Y G0 s0) : RmOn c G0 s0 Y Y := ⟨G0, s0, 0, Stp.refl _ _, Went.refl _, h⟩
theorem RmOn.nil (h : RmOn c G0 s0 Y w) (k : Keep Nil w w') : RmOn c G0 s0 Y w' := by
  obtain ⟨G, s, j, h1, h2, h3⟩ := h.out
  exact ⟨G, s, j, h1.then_nil k, h2, h3.nil k⟩
theorem RmOn.keep (h : RmOn c G0 s0 Y w) : Keep G0 Y w := by
  obtain ⟨G, s, j, h1, _⟩ := h.out
  exact h1.keep
theorem CuOn.keep (h : CuOn c G0 s0 Y cb L up v r m l bad w) : Keep G0 Y w := by
  obtain ⟨b, q, G, s, j, h1, _⟩ := h.out
  exact h1.keep
theorem CuOn.nil (h : CuOn c G0 s0 Y cb L up v r m l bad w) (k : Keep Nil w w') : CuOn c G0 s0 Y cb L up v r m l bad w' := by
  obtain ⟨b, q, G, s, j, h1, h2, h3⟩ := h.out
  exact ⟨b, q, G, s, j, h1.then_nil k, h2, h3.nil k⟩
theorem RmOn.of_to {J : Nat} {G : Nat → Prop} {s : RSt} {j : Nat} (h1 : Stp Y G0 w G) (h2 : Went j 0 s0 s) (t : WentTo c G J 0 s w w') : RmOn c G0 s0 Y w' := by
  obtain ⟨j1, s1, _, hw, G1, h3, st⟩ := t
  exact ⟨G1, s1, j1 + j, h1.trans st, (h2.trans hw).of_eq rfl (by omega), h3⟩
theorem RmOn.to_ {G : Nat → Prop} {s : RSt} {j : Nat} (h1 : Stp Y G0 w G) (h2 : Went j 0 s0 s) (t : RmTo c G s w w') : RmOn c G0 s0 Y w' := by
  obtain ⟨G1, h3, st⟩ := t
  exact ⟨G1, s, j, h1.trans st, h2, h3⟩
theorem rdS_facts (P : RdG c how L s0) : s0.S.closed = false ∧ s0.S.hand = 0 ∧ s0.S.parts = 0 ∧ s0.S.limit = rdLim how L c.K := by
  rw [P.S]
  exact ⟨rfl, rfl, rfl, rfl⟩
theorem RdG.fsok (P : RdG c how L s0) : FsOk (rdFs (rdFile how L c.block) c.block) := ⟨rd_rises, rd_short, rd_bytes, rd_few P.fit P.pos P.len⟩
theorem RmOn.look (P : RdG c how L s0) (h : RmOn c G0 s0 Y w) :
    Calls Tryz.prog 26 #[.pointer (some ⟨c.k, 0, none⟩), .string (rdName how)] w fun e w' => e = .returned (.tuple #[ansV (rdO how L), .int .i64 (rdN how L)]) ∧ RmOn c G0 s0 Y w' := by
  obtain ⟨G, s, j, h1, h2, h3⟩ := h.out
  exact (look_any h3 ((rd_look P.calm P.S P.oks P.len).went h2 P.calm)).mono fun e w1 ⟨he, t⟩ => ⟨he, RmOn.of_to h1 h2 t⟩
theorem RmOn.kept {H : Nat → Prop} {v : Value} (P : RdG c how L s0) (h : RmOn c G0 s0 Y w) (hs : StAt w H (.agg #[.int .i64 c.block, v]) c.block (rdFs (rdFile how L c.block) c.block)) :
    Calls Tryz.prog 14 #[.agg #[.pointer (some ⟨c.d, 0, none⟩), .pointer (some ⟨c.p, 0, none⟩), .pointer (some ⟨c.k, 0, none⟩), .int .i64 c.block, v]] w fun e w' => e = .returned (.bool true) ∧ RmOn c G0 s0 Y w' := by
  obtain ⟨G, s, j, h1, h2, h3⟩ := h.out
  obtain ⟨_, e2, e3, _⟩ := rdS_facts P
  have hf := P.fsok
  refine (kept_rm h3 hs (h2.calm P.calm) (List.Perm.refl _) hf.rises hf.short hf.bytes hf.few (by rw [h2.hand, h2.parts, e2, e3]; rfl)).mono fun e w1 ⟨he, t⟩ => ⟨he, RmOn.to_ h1 h2 t⟩
theorem RmOn.quiet {v : Value} (P : RdG c how L s0) (h : RmOn c G0 s0 Y w) :
    Calls Tryz.prog 32 #[.agg #[.pointer (some ⟨c.d, 0, none⟩), .pointer (some ⟨c.p, 0, none⟩), .pointer (some ⟨c.k, 0, none⟩), .int .i64 c.block, v]] w fun e w' => e = .returned (.bool true) ∧ Keep Nil w w' := by
  obtain ⟨G, s, j, h1, h2, h3⟩ := h.out
  exact quiet_rm h3 (by rw [h2.D]; exact P.quiet.readsN j)
/-- Why a cursor is refused. -/
theorem refused (P : RdG c how L s0) (hz : ¬ rdN2 how L = 0) {s : RSt} {j : Nat} (h2 : Went j 0 s0 s) :
    (∃ o, LookAns c s (rdName how) o (rdN2 how L)) ∨ (rdName how = nmF ∧ rdN2 how L = 72 ∧ TapeOn c (rdFs (rdFile how L c.block) c.block) nmF 2 L ∧ Calm s.D c.block (rdFs (rdFile how L c.block) c.block) ∧ s.S.closed = false ∧ 0 ≤ s.S.hand ∧ (c.K : Int) ≤ s.S.limit - (s.S.hand + s.S.parts) ∧ ∃ v r m, endL L = some (v, r, m) ∧ ¬ L.length = m + 1) := by
  have hlk := (rd_look P.calm P.S P.oks P.len).went h2 P.calm
  by_cases ee : rdErr how L = 0
  · obtain ⟨en, ht⟩ := rd_tape (c := c) ee P.oks P.len
    have e1 : rdN how L = ansN (endL L) := if_pos ee
    have e2 : rdN2 how L = ansN (openedL L) := if_pos ee
    have eo : rdO how L = endL L := if_pos ee
    cases he : endL L with
    | none =>
      have : openedL L = none := by unfold openedL; rw [he]
      refine .inl ⟨none, ?_⟩
      rw [e1, eo, he] at hlk
      rw [e2, this]
      exact hlk
    | some p =>
      obtain ⟨v, r, m⟩ := p
      by_cases hn : L.length = m + 1
      · exfalso
        have : openedL L = some (v, r, m) := by unfold openedL; rw [he]; simp only; rw [if_pos hn]
        rw [e2, this] at hz
        exact hz rfl
      · have : openedL L = none := by unfold openedL; rw [he]; simp only; rw [if_neg hn]
        obtain ⟨f1, f2, f3, f4⟩ := rdS_facts P
        have el : rdLim how L c.K = c.K := by unfold rdLim; rw [ee]; rfl
        refine .inr ⟨en, by rw [e2, this]; rfl, ht, h2.calm P.calm, by rw [h2.closed, f1], by rw [h2.hand, f2]; decide, by rw [h2.hand, h2.limit, h2.parts, f2, f3, f4, el]; omega, v, r, m, rfl, hn⟩
  · refine .inl ⟨rdO how L, ?_⟩
    have e1 : rdN how L = rdErr how L := if_neg ee
    have e2 : rdN2 how L = rdErr how L := if_neg ee
    rw [e2, ← e1]
    exact hlk
theorem RmOn.up_no (P : RdG c how L s0) (h : RmOn c G0 s0 Y w) (hz : ¬ rdN2 how L = 0) :
    Calls Tryz.prog 27 #[.pointer (some ⟨c.k, 0, none⟩), .string (rdName how)] w fun e w' => e = .returned (.tuple #[.pointer none, .int .i64 (rdN2 how L)]) ∧ RmOn c G0 s0 Y w' := by
  obtain ⟨G, s, j, h1, h2, h3⟩ := h.out
  rcases refused P hz h2 with ⟨o, hl⟩ | ⟨en, e2, ht, hc, hcl, hh, hf, v, r, m, he, hn⟩
  · exact (up_bad h3 hl hz).mono fun e w1 ⟨he, t⟩ => ⟨he, RmOn.of_to h1 h2 t⟩
  · rw [en, e2]
    exact (up_shape h3 ht hc hcl hh hf he hn).mono fun e w1 ⟨he, t⟩ => ⟨he, RmOn.of_to h1 h2 t⟩
theorem RmOn.down_no (P : RdG c how L s0) (h : RmOn c G0 s0 Y w) (hz : ¬ rdN2 how L = 0) :
    Calls Tryz.prog 28 #[.pointer (some ⟨c.k, 0, none⟩), .string (rdName how)] w fun e w' => e = .returned (.tuple #[.pointer none, .int .i64 (rdN2 how L)]) ∧ RmOn c G0 s0 Y w' := by
  obtain ⟨G, s, j, h1, h2, h3⟩ := h.out
  rcases refused P hz h2 with ⟨o, hl⟩ | ⟨en, e2, ht, hc, hcl, hh, hf, v, r, m, he, hn⟩
  · exact (down_bad h3 hl hz).mono fun e w1 ⟨he, t⟩ => ⟨he, RmOn.of_to h1 h2 t⟩
  · rw [en, e2]
    exact (down_shape h3 ht hc hcl hh hf he hn).mono fun e w1 ⟨he, t⟩ => ⟨he, RmOn.of_to h1 h2 t⟩
/-- What stands where a cursor is begun. -/
structure RdYes (c : Cx) (how : Int) (L : List R4) (v r m : Nat) : Prop where
  err : rdErr how L = 0
  name : rdName how = nmF
  tape : TapeOn c (rdFs (rdFile how L c.block) c.block) nmF 2 L
  ends : endL L = some (v, r, m)
  opens : openedL L = some (v, r, m)
  len : L.length = m + 1
  vars : v ≤ 65536
theorem rd_yes (P : RdG c how L s0) (hz : rdN2 how L = 0) : ∃ v r m, RdYes c how L v r m := by
  have ee : rdErr how L = 0 := by
    by_cases ee : rdErr how L = 0
    · exact ee
    · unfold rdN2 at hz
      rw [if_neg ee] at hz
      exact hz
  obtain ⟨en, ht⟩ := rd_tape (c := c) ee P.oks P.len
  have e2 : rdN2 how L = ansN (openedL L) := if_pos ee
  cases ho : openedL L with
  | none => rw [e2, ho] at hz; exact absurd hz (by decide)
  | some p =>
    obtain ⟨v, r, m⟩ := p
    have ho2 := ho
    unfold openedL at ho2
    cases he : endL L with
    | none => rw [he] at ho2; cases ho2
    | some p2 =>
      obtain ⟨v', r', m'⟩ := p2
      rw [he] at ho2
      simp only at ho2
      split at ho2
      · rename_i hn
        injection ho2 with ho2
        injection ho2 with a1 a2
        injection a2 with a2 a3
        subst a1 a2 a3
        exact ⟨_, _, _, ee, en, ht, he, ho, hn, (endL_some he).1⟩
      · cases ho2
theorem RmOn.up_yes (P : RdG c how L s0) (h : RmOn c G0 s0 Y w) (hy : RdYes c how L v r m) :
    Calls Tryz.prog 27 #[.pointer (some ⟨c.k, 0, none⟩), .string (rdName how)] w fun e w' => ∃ cb, e = .returned (.tuple #[.pointer (some ⟨cb, 0, none⟩), .int .i64 0]) ∧ CuOn c G0 s0 Y cb L true v r m (walkN true v r m (L.take m) 0 n0).1 (walkN true v r m (L.take m) 0 n0).2 w' := by
  obtain ⟨G, s, j, h1, h2, h3⟩ := h.out
  obtain ⟨f1, f2, f3, f4⟩ := rdS_facts P
  have el : rdLim how L c.K = c.K := by unfold rdLim; rw [hy.err]; rfl
  rw [hy.name]
  refine (up_go h3 hy.tape (h2.calm P.calm) (by rw [h2.closed, f1]) (by rw [h2.hand, f2]; decide) (by rw [h2.hand, h2.limit, h2.parts, f2, f3, f4, el]; omega) hy.ends hy.len).mono fun e w1 hq => ?_
  obtain ⟨cb, b, q, G', s', j', he, hw, st, hl⟩ := hq.out
  exact ⟨cb, he, ⟨b, q, G', s', j' + j, h1.trans st, (h2.trans hw).of_eq rfl (by omega), hl⟩⟩
theorem RmOn.down_yes (P : RdG c how L s0) (h : RmOn c G0 s0 Y w) (hy : RdYes c how L v r m) :
    Calls Tryz.prog 28 #[.pointer (some ⟨c.k, 0, none⟩), .string (rdName how)] w fun e w' => ∃ cb, e = .returned (.tuple #[.pointer (some ⟨cb, 0, none⟩), .int .i64 0]) ∧ CuOn c G0 s0 Y cb L false v r m (walkN false v r m ((L.take m).reverse) 0 n0).1 (walkN false v r m ((L.take m).reverse) 0 n0).2 w' := by
  obtain ⟨G, s, j, h1, h2, h3⟩ := h.out
  obtain ⟨f1, f2, f3, f4⟩ := rdS_facts P
  have el : rdLim how L c.K = c.K := by unfold rdLim; rw [hy.err]; rfl
  rw [hy.name]
  refine (down_go h3 hy.tape (h2.calm P.calm) (by rw [h2.closed, f1]) (by rw [h2.hand, f2]; decide) (by rw [h2.hand, h2.limit, h2.parts, f2, f3, f4, el]; omega) hy.ends hy.len).mono fun e w1 hq => ?_
  obtain ⟨cb, b, q, G', s', j', he, hw, st, hl⟩ := hq.out
  exact ⟨cb, he, ⟨b, q, G', s', j' + j, h1.trans st, (h2.trans hw).of_eq rfl (by omega), hl⟩⟩
/-- The script over a cursor: nodes in a row of one's own, made behind the cursor. -/
theorem CuOn.goes {si : List Int} {vs : Value} {An Ai : Option Addr} {cn ci : Nat} {wn : World} {base : Nat} (P : RdG c how L s0) (hy : RdYes c how L v r m) (h : CuOn c G0 s0 Y cb L up v r m l bad w) (k : Keep Nil w wn) (hl : l.length ≤ 1099511627776) (hsl : si.length ≤ 9223372036854775807)
    (hn : wn.ownsRow base 46 3 (.slice An l.length cn) l.length (ndCells l)) (hb : w.heap.size ≤ base)
    (hi : Rd Y Ai (si.map fun x => .int .i64 x)) (his : si ≠ [] → ∀ a, Ai = some a → a.spot = none ∧ ¬ G0 a.block ∧ a.block < Y.heap.size) :
    Calls Tryz.prog 30 #[.agg #[.pointer (some ⟨c.d, 0, none⟩), .pointer (some ⟨c.p, 0, none⟩), .pointer (some ⟨c.k, 0, none⟩), .int .i64 c.block, vs], .pointer (some ⟨cb, 0, none⟩), .slice An l.length cn, .bool bad, .slice Ai si.length ci] wn
      fun e w' => e = .returned (.bool true) ∧ RmOn c G0 s0 Y w' := by
  obtain ⟨b, q, G, s, j, h1, h2, h3⟩ := h.out
  obtain ⟨f1, f2, f3, f4⟩ := rdS_facts P
  have hG : GoP c (rdFs (rdFile how L c.block) c.block) nmF L s := ⟨hy.tape, h2.calm P.calm, by rw [h2.hand, f2]; omega, by rw [h2.parts, f3], by rw [h2.closed, f1]⟩
  refine (goes_any c _ nmF L up bad v r m cb b q G s l si wn vs An Ai cn ci hG (h3.nil k) hl hsl (own_rd hn) ((hi.keep h1.keep (fun a e hne => (his (fun e2 => hne (by rw [e2]; rfl)) a e).2.1)).keep k (fun _ _ _ h => h)) (fun a e => ⟨(own_le hn).2 a e, fun hg => ?_⟩) (fun hs a e => ⟨(his hs a e).1, fun hg => ?_⟩)).mono fun e w1 ⟨he, j1, s1, hw, G1, h4, st⟩ => ?_
  · have e1 := h3.lt _ hg
    have e2 := own_base hn (g := a.block) (by rw [e]; rfl)
    omega
  · rcases h1.grow _ hg with h | h
    · exact (his hs a e).2.1 h
    · have := (his hs a e).2.2; omega
  · exact ⟨he, ⟨G1, s1, j1 + j, (h1.then_nil k).trans st, (h2.trans hw).of_eq rfl (by omega), h4⟩⟩
end

set_option maxRecDepth 100000 in
theorem neq_info (a b c : Int) (w : World) : (binOp .neq 72 (.agg #[.int .i64 a, .int .u64 b, .int .i64 c]) (.agg #[.int .i64 a, .int .u64 b, .int .i64 c])).run Tryz.prog w = .ok (.bool false) w := by
  rw [run_neq_struct]
  have e : (Op.equalIn 10000 72 (.agg #[.int .i64 a, .int .u64 b, .int .i64 c]) (.agg #[.int .i64 a, .int .u64 b, .int .i64 c])).run Tryz.prog w = .ok true w := by
    go_simp
  rw [e]
  rfl
end Go.Proofs.YtadipinnbehhhaaGreatDoor
namespace Go.Proofs.YtadipinnbehhhaaGreatDoor
open Go.RowKit

theorem walkN_len (up : Bool) (v r m : Nat) : ∀ (recs : List R4) (k : Nat) (n : N3), (walkN up v r m recs k n).1.length ≤ recs.length
  | [], _, _ => Nat.le_refl _
  | x :: rs, k, n => by
    unfold walkN
    split
    · have := walkN_len up v r m rs (k + 1) x.n3
      simp only [List.length_cons]
      omega
    · exact Nat.zero_le _
theorem ansV_in (o : Option (Nat × Nat × Nat)) : ∃ a b d : Nat, ansV o = .agg #[.int .i64 a, .int .u64 b, .int .i64 d] := by
  cases o with
  | none => exact ⟨0, 0, 0, rfl⟩
  | some p => exact ⟨p.1, p.2.1, p.2.2, rfl⟩
/-- What stands when the answers are known. -/
def RdCut (b14 : Nat) (n1 n2 : Int) (a1 a2 a3 : Nat) (V0 : World) (v15 v17 : Value) (wc : World) : Prop :=
  v15 = .int .i64 n1 ∧ v17 = .int .i64 n2 ∧ Hid (Blk wc b14 72 #[.int .i64 a1, .int .u64 a2, .int .i64 a3]) ∧ Hid (Keep (fun z => z = b14) V0 wc)
/-- What stays while the room turns. -/
structure RdFix (c : Cx) (B room case i16 : Nat) (A Ai : Option Addr) (cap ci : Nat) (b : Int) (L : List R4) (si : List Int) (b1 b2 b3 : Nat) (As : Option Addr) (cs : Nat) (how : Int) (w : World) : Prop where
  r0 : w.cell? ⟨room, 0, none⟩ = some (.pointer (some ⟨c.d, 0, none⟩))
  r1 : w.cell? ⟨room, 1, none⟩ = some (.pointer (some ⟨c.p, 0, none⟩))
  r2 : w.cell? ⟨room, 2, none⟩ = some (.pointer (some ⟨c.k, 0, none⟩))
  r3 : w.cell? ⟨room, 3, none⟩ = some (.int .i64 c.block)
  r4 : w.cell? ⟨room, 4, none⟩ = some (.slice As 3 cs)
  q0 : w.cell? ⟨case, 0, none⟩ = some (.slice A L.length cap)
  q1 : w.cell? ⟨case, 1, none⟩ = some (.int .i64 b)
  t0 : w.cell? ⟨i16, 0, none⟩ = some (.int .i64 b1)
  t1 : w.cell? ⟨i16, 1, none⟩ = some (.int .u64 b2)
  t2 : w.cell? ⟨i16, 2, none⟩ = some (.int .i64 b3)
  recs : Rd w A (rcCells L)
  state : StAt w (fun z => z < B) (.agg #[.int .i64 c.block, .slice As 3 cs]) c.block (rdFs (rdFile how L c.block) c.block)
set_option maxRecDepth 100000 in
set_option maxHeartbeats 4000000 in
theorem reads_true (w : World) (E : Nat → Addr) (b how : Int) (A Ai : Option Addr) (cap ci : Nat) (L : List R4) (si : List Int) (hb : -9223372036854775808 ≤ b ∧ b ≤ 9223372036854775807) (hr : Rd w A (rcCells L)) (hA : L ≠ [] → ∀ a, A = some a → a.spot = none ∧ a.block < w.heap.size)
    (ho : ∀ r ∈ L, r.Ok) (hcap : L.length ≤ cap) (hi : Rd w Ai (si.map fun x => .int .i64 x)) (hAi : si ≠ [] → ∀ a, Ai = some a → a.spot = none ∧ a.block < w.heap.size) (hsl : si.length ≤ 9223372036854775807) (he : ErrsAt w E) (hh : HalvesAt w) (hm : MagicAt w) (hle : L.length ≤ 268435456) :
    Calls Tryz.prog 4 #[.agg #[.slice A L.length cap, .int .i64 b], .slice Ai si.length ci, .int .i64 how] w fun e w' => e = .returned (.bool true) ∧ Keep Nil w w' := by
  have hwi := within_bd b
  have hbl := lblock_any b hb
  have hK := fit_K hwi
  obtain ⟨block, hblock⟩ : ∃ block : Nat, (block : Int) = 64 + 32 * within b 9 := ⟨(64 + 32 * within b 9).toNat, by omega⟩
  obtain ⟨K, hKK⟩ : ∃ K : Nat, (K : Int) = 1 + within b 9 := ⟨(1 + within b 9).toNat, by omega⟩
  rw [← hblock] at hbl hK
  rw [← hKK] at hK
  have hb1 : 64 ≤ block ∧ block ≤ 65536 ∧ block % 32 = 0 := by omega
  have hK0 : 0 < K := by omega
  have hK9 : K ≤ 9 := by omega
  have hhu : ∀ W, Calls Tryz.prog 8 #[.int .i64 L.length] W fun e w' => e = .returned (.bool false) ∧ w' = W := fun W => by
    have := huge_any L.length W
    rw [decide_eq_false (by omega)] at this
    exact this
  have hft := fun W => rfit_any block W
  rw [hK] at hft
  obtain ⟨W, hW⟩ : ∃ W, W = w.alloc (.cells #[.slice A L.length cap, .int .i64 b] 67) := ⟨_, rfl⟩
  have kW : Keep Nil w W := by rw [hW]; exact (Keep.refl Nil w).alloc _
  have bW : Blk W w.heap.size 67 #[.slice A L.length cap, .int .i64 b] := by rw [hW]; exact Blk.new w _ _
  obtain ⟨nm, hnm⟩ : ∃ nm, nm = rdName how := ⟨_, rfl⟩
  obtain ⟨er, her⟩ : ∃ er, er = rdErr how L := ⟨_, rfl⟩
  obtain ⟨lim, hlim⟩ : ∃ lim, lim = rdLim how L K := ⟨_, rfl⟩
  have hlm : (er = 2 → lim = (K : Int) - 1) ∧ (¬ er = 2 → lim = K) := by
    rw [hlim, her]
    exact ⟨fun h => if_pos h, fun h => if_neg h⟩
  obtain ⟨F, hF⟩ : ∃ F, F = rdFile how L block := ⟨_, rfl⟩
  have hfi := files_any how A cap block L W hb1 ⟨hcap, by omega⟩ (hr.keep kW (fun _ _ _ h => h)) (fun hL a e => (hA hL a e).1) ho
  have HFI : Hid (Calls Tryz.prog 23 #[.slice A L.length cap, .int .i64 block, .int .i64 how] W fun e w' => ∃ Af, e = .returned (.tuple #[.string nm, .slice Af 1 1, .int .i64 er]) ∧ Hid (FlAt w' (fun b => W.heap.size ≤ b) (.slice Af 1 1) [(nmF, F)]) ∧ Hid (Keep Nil W w')) := Hid.intro_ (hfi.mono fun e w' hq => by
    obtain ⟨Af, h1, h2, h3⟩ := hq.out
    rw [hnm, her, hF]
    exact ⟨Af, h1, h2, h3⟩)
  obtain ⟨e1, e2, e3, hae⟩ := ansV_in (endL L)
  obtain ⟨b1, b2, b3, hab⟩ := ansV_in (openedL L)
  obtain ⟨a1, a2, a3, haa⟩ := ansV_in (rdO how L)
  obtain ⟨m1, hm1⟩ : ∃ m1, m1 = ansN (endL L) := ⟨_, rfl⟩
  obtain ⟨m2, hm2⟩ : ∃ m2, m2 = ansN (openedL L) := ⟨_, rfl⟩
  obtain ⟨n1, hn1⟩ : ∃ n1, n1 = rdN how L := ⟨_, rfl⟩
  obtain ⟨n2, hn2⟩ : ∃ n2, n2 = rdN2 how L := ⟨_, rfl⟩
  have hz0 : er = 0 → n1 = m1 ∧ n2 = m2 ∧ a1 = e1 ∧ a2 = e2 ∧ a3 = e3 := fun h => by
    rw [her] at h
    have e4 : rdN how L = ansN (endL L) := if_pos h
    have e5 : rdN2 how L = ansN (openedL L) := if_pos h
    have e6 : rdO how L = endL L := if_pos h
    rw [e6, hae] at haa
    simp only [Value.agg.injEq, Array.mk.injEq, List.cons.injEq, Value.int.injEq, true_and, and_true] at haa
    exact ⟨by rw [hn1, e4, hm1], by rw [hn2, e5, hm2], by omega, by omega, by omega⟩
  have hz1 : ¬ er = 0 → n1 = er ∧ n2 = er ∧ a1 = 0 ∧ a2 = 0 ∧ a3 = 0 := fun h => by
    rw [her] at h
    have e4 : rdN how L = rdErr how L := if_neg h
    have e5 : rdN2 how L = rdErr how L := if_neg h
    have e6 : rdO how L = none := if_neg h
    rw [e6] at haa
    simp only [ansV, Value.agg.injEq, Array.mk.injEq, List.cons.injEq, Value.int.injEq, true_and, and_true] at haa
    exact ⟨by rw [hn1, e4, her], by rw [hn2, e5, her], by omega, by omega, by omega⟩
  have hend : ∀ V, Keep Nil w V → Calls Tryz.prog 24 #[.slice A L.length cap] V fun e w' => e = .returned (.tuple #[.agg #[.int .i64 e1, .int .u64 e2, .int .i64 e3], .int .i64 m1]) ∧ Keep Nil V w' := fun V kV => by
    have := end_law A cap L V (hr.keep kV (fun _ _ _ h => h)) ho (by omega)
    rw [hae, ← hm1] at this
    exact this
  have hopd : ∀ V, Keep Nil w V → Calls Tryz.prog 25 #[.slice A L.length cap] V fun e w' => e = .returned (.tuple #[.agg #[.int .i64 b1, .int .u64 b2, .int .i64 b3], .int .i64 m2]) ∧ Keep Nil V w' := fun V kV => by
    have := opened_law A cap L V (hr.keep kV (fun _ _ _ h => h)) ho (by omega)
    rw [hab, ← hm2] at this
    exact this
  have HEND := Hid.intro_ hend
  have HOPD := Hid.intro_ hopd
  have HZ0 := Hid.intro_ hz0
  have HZ1 := Hid.intro_ hz1
  have HLM := Hid.intro_ hlm
  have HLIM := Hid.intro_ hlim
  have HNM := Hid.intro_ hnm
  have HFF := Hid.intro_ hF
  have HN1 := Hid.intro_ hn1
  have HN2 := Hid.intro_ hn2
  have HAA := Hid.intro_ haa
  have HAB := Hid.intro_ hab
  have hlim2 : 0 ≤ lim ∧ lim ≤ 9 := by
    by_cases h : er = 2
    · have := hlm.1 h; omega
    · have := hlm.2 h; omega
  clear hfi hnm her hlim hlm hF hae hab haa hm1 hm2 hn1 hn2 hz0 hz1 hend hopd
  have w0 : W.cell? ⟨w.heap.size, 0, none⟩ = some (.slice A L.length cap) := bW.at_ 0
  have w1 : W.cell? ⟨w.heap.size, 1, none⟩ = some (.int .i64 b) := bW.at_ 1
  have HBL := Hid.intro_ hbl
  have HFT := Hid.intro_ hft
  have HHU := Hid.intro_ hhu
  have HB1 := Hid.intro_ hb1
  have HR := Hid.intro_ hr
  have HA := Hid.intro_ hA
  have HO := Hid.intro_ ho
  have HI := Hid.intro_ hi
  have HAI := Hid.intro_ hAi
  have HE := Hid.intro_ he
  have HH := Hid.intro_ hh
  have HM := Hid.intro_ hm
  have HK := Hid.intro_ hK
  have KW := Hid.intro_ kW
  have BW := Hid.intro_ bW
  clear hbl hft hhu hblock hKK hwi hr hA ho hi hAi he hh hm hb1 hK kW bW
  go_enter Tryz.func4, Tryz.ntmps4
  go_upto_region 1 with (fail)
  rw [← hW]
  clear hW
  go_upto_region 5 with (first
    | (go_at_call 8; refine (HHU.out _).mono ?_; rintro e w' ⟨rfl, hw⟩; obtain rfl := hw.symm)
    | (go_at_call 9; refine (HBL.out _).mono ?_; rintro e w' ⟨rfl, hw⟩; obtain rfl := hw.symm)
    | (go_at_call 10; refine (HFT.out _).mono ?_; rintro e w' ⟨rfl, hw⟩; obtain rfl := hw.symm)
    | fail)
  go_wp2_with fail
  refine HFI.out.mono ?_
  rintro e wf ⟨Af, rfl, HFL, KF⟩
  go_upto_if 45 with (fail)
  go_cut [8] from 46 to 47 (fun v wc => v = .int .i64 lim ∧ wc = wf)
  case first =>
    by_cases h2 : er = 2
    · have q : (er == 2) = true := by simpa using h2
      have e := Hid.intro_ (HLM.out.1 h2)
      have x1 : IntKind.i64.wrap ((K : Int) - 1) = (K : Int) - 1 := IntWalk.i64_in _ (by omega)
      have x2 : wrap64 ((K : Int) - 1) = (K : Int) - 1 := wrap_low _ (by omega)
      clear h2
      go_wp2_with fail
      go_meet
      exact ⟨by rw [e.out], rfl⟩
    · have q : (er == 2) = false := by simpa using h2
      have e := Hid.intro_ (HLM.out.2 h2)
      clear h2
      go_wp2_with fail
      go_meet
      exact ⟨by rw [e.out], rfl⟩
  case rest =>
    obtain ⟨rfl, hwc⟩ := hcut
    obtain rfl := hwc.symm
    clear w0 w1
    go_wp2_with fail
    refine (stray1_any W.heap.size block F Af 1 wf HB1.out KF.out.size HFL.out).mono ?_
    rintro e X hq
    obtain ⟨As, cs, rfl, hst, k2⟩ := hq.out
    have hstX : StAt X (fun z => z < X.heap.size) (.agg #[.int .i64 block, .slice As 3 cs]) block (rdFs F block) := hst.mono (fun z _ hz => hz)
    have KX := Hid.intro_ ((KW.out.then_ KF.out).then_ k2)
    have HSTX := Hid.intro_ hstX
    have BWX := Hid.intro_ (BW.out.keep (KF.out.then_ k2) (fun h => h))
    have HOP := Hid.intro_ (open_ok (fun z => z < X.heap.size) (.slice As 3 cs) block 1099511627776 lim (rdFs F block) X hstX (by have := HB1.out; omega) (by have := HB1.out; omega) (by have := HB1.out; omega) (by decide) (by decide) hlim2.1 (by omega) rd_ok (fun f hf b hb => by rw [HFF.out] at hf; rw [rd_blocks HK.out hK0 f hf b hb]) (by rw [HFF.out]; exact rd_bytes) rd_rises (by have := rd_total (how := how) (L := L) HK.out hK0; rw [HFF.out]; omega) (by rw [HFF.out]; exact rd_few HK.out hK0 hle) (by rw [HK.out]; omega))
    have HEX := Hid.intro_ (HE.out.keep KX.out (fun _ _ h => h) (fun _ _ h => h))
    have HHX := Hid.intro_ (HH.out.keep KX.out (fun h => h))
    have HMX := Hid.intro_ (HM.out.keep KX.out (fun h => h))
    clear hst k2 hstX
    go_wp2_with fail
    refine HOP.out.mono ?_
    rintro e w3 ⟨d, p, lk, k, m0, m, rfl, hop⟩
    obtain ⟨hrm, hG⟩ := open_rm hop HEX.out HHX.out HMX.out HK.out hK0
    have k3 := hop.keep
    obtain ⟨Y, hY⟩ : ∃ Y, Y = w3.alloc (.cells #[.pointer (some ⟨d, 0, none⟩), .pointer (some ⟨p, 0, none⟩), .pointer (some ⟨k, 0, none⟩), .int .i64 block, .slice As 3 cs] 35) := ⟨_, rfl⟩
    have kY0 : Keep Nil w3 Y := by rw [hY]; exact (Keep.refl Nil w3).alloc _
    have bR : Blk Y w3.heap.size 35 #[.pointer (some ⟨d, 0, none⟩), .pointer (some ⟨p, 0, none⟩), .pointer (some ⟨k, 0, none⟩), .int .i64 block, .slice As 3 cs] := by rw [hY]; exact Blk.new w3 _ _
    have hrY := hrm.nil kY0
    have hGl : ∀ z, RF (fun b => m0 ≤ b ∧ b < m) p lk k z → z < w3.heap.size := hrm.lt
    generalize hGG : RF (fun b => m0 ≤ b ∧ b < m) p lk k = G at *
    have hcase := (BWX.out.keep k3 (fun h => h)).keep kY0 (fun h => h)
    have qc : Y.cell? ⟨w.heap.size, 0, none⟩ = some (.slice A L.length cap) := hcase.at_ 0
    have KY := Hid.intro_ (KX.out.then_ (k3.then_ kY0))
    have KXY := Hid.intro_ (k3.then_ kY0)
    have HCASE := Hid.intro_ hcase
    have BR := Hid.intro_ bR
    have HRY := Hid.intro_ hrY
    have HGX := Hid.intro_ hG
    have HGL := Hid.intro_ hGl
    clear hop hrm k3 kY0 bR hrY hG hGl hGG hcase
    go_upto_region 11 with (fail)
    rw [← hY]
    clear hY
    go_wp2_with fail
    refine (HEND.out Y KY.out).mono ?_
    rintro e w4 ⟨rfl, k4⟩
    have q4 := cell_keep qc k4 (fun h => h)
    have K4 := Hid.intro_ k4
    have b4 := Blk.new w4 72 #[.int .i64 e1, .int .u64 e2, .int .i64 e3]
    have ka4 : Keep Nil w4 (w4.alloc (.cells #[.int .i64 e1, .int .u64 e2, .int .i64 e3] 72)) := (Keep.refl Nil w4).alloc _
    obtain ⟨Z4, hZ4⟩ : ∃ Z4, Z4 = w4.alloc (.cells #[.int .i64 e1, .int .u64 e2, .int .i64 e3] 72) := ⟨_, rfl⟩
    rw [← hZ4] at b4 ka4
    have qz4 := cell_keep q4 ka4 (fun h => h)
    have B4 := Hid.intro_ b4
    have KZ4 := Hid.intro_ (K4.out.then_ ka4)
    clear k4 b4 ka4 qc q4
    go_upto_region 12 with (fail)
    rw [← hZ4]
    clear hZ4
    go_wp2_with fail
    refine (HOPD.out Z4 (KY.out.then_ KZ4.out)).mono ?_
    rintro e w5 ⟨rfl, k5⟩
    have b5 := B4.out.keep k5 (fun h => h)
    obtain ⟨V0, hV0⟩ : ∃ V0, V0 = w5.alloc (.cells #[.int .i64 b1, .int .u64 b2, .int .i64 b3] 72) := ⟨_, rfl⟩
    have kv : Keep Nil w5 V0 := by rw [hV0]; exact (Keep.refl Nil w5).alloc _
    have b14 := b5.keep kv (fun h => h)
    have b16 : Blk V0 w5.heap.size 72 #[.int .i64 b1, .int .u64 b2, .int .i64 b3] := by rw [hV0]; exact Blk.new w5 _ _
    have l45 : Hid (w4.heap.size < w5.heap.size) := b5.lt
    have KV0 := Hid.intro_ (KZ4.out.then_ (k5.then_ kv))
    have B14 := Hid.intro_ b14
    have B16 := Hid.intro_ b16
    clear k5 b5 kv b14 b16 qz4
    go_upto_if 71 with (fail)
    rw [← hV0]
    clear hV0
    go_cut [15, 17] from 72 to 74 (fun v15 v17 wc => RdCut w4.heap.size n1 n2 a1 a2 a3 V0 v15 v17 wc)
    case first =>
      by_cases h0 : er = 0
      · have q : (er != 0) = false := by simpa using h0
        obtain ⟨g1, g2, g3, g4, g5⟩ := HZ0.out h0
        have G1 := Hid.intro_ g1
        have G2 := Hid.intro_ g2
        have G3 := Hid.intro_ g3
        have G4 := Hid.intro_ g4
        have G5 := Hid.intro_ g5
        clear h0 g1 g2 g3 g4 g5
        go_wp2_with fail
        go_meet
        exact ⟨by rw [G1.out], by rw [G2.out], by rw [G3.out, G4.out, G5.out]; exact B14.out, Keep.refl _ _⟩
      · have q : (er != 0) = true := by simpa using h0
        obtain ⟨g1, g2, g3, g4, g5⟩ := HZ1.out h0
        have z0 : V0.cell? ⟨w4.heap.size, 0, none⟩ = some (.int .i64 e1) := B14.out.at_ 0
        have z1 : V0.cell? ⟨w4.heap.size, 1, none⟩ = some (.int .u64 e2) := B14.out.at_ 1
        have z2 : V0.cell? ⟨w4.heap.size, 2, none⟩ = some (.int .i64 e3) := B14.out.at_ 2
        have f0 := B14.out.fr 0
        have f1 := B14.out.fr 1
        have f2 := B14.out.fr 2
        have hb3 := ((B14.out.set_ 0 (.int .i64 0)).set_ 1 (.int .u64 0)).set_ 2 (.int .i64 0)
        have kp := (((Keep.refl (fun z => z = w4.heap.size) V0).setCell (p := ⟨w4.heap.size, 0, none⟩) (fun _ => rfl) (.int .i64 0)).setCell (p := ⟨w4.heap.size, 1, none⟩) (fun _ => rfl) (.int .u64 0)).setCell (p := ⟨w4.heap.size, 2, none⟩) (fun _ => rfl) (.int .i64 0)
        have HB3 := Hid.intro_ hb3
        have KP := Hid.intro_ kp
        have G1 := Hid.intro_ g1
        have G2 := Hid.intro_ g2
        have G3 := Hid.intro_ g3
        have G4 := Hid.intro_ g4
        have G5 := Hid.intro_ g5
        clear h0 g1 g2 g3 g4 g5 hb3 kp
        go_wp2_with fail
        go_meet
        exact ⟨by rw [G1.out], by rw [G2.out], by rw [G3.out, G4.out, G5.out]; exact HB3.out, KP.out⟩
    case rest =>
      obtain ⟨rfl, rfl, HB14, HKV⟩ := hcut
      obtain ⟨V, rfl⟩ : ∃ V : World, V = wc := ⟨_, rfl⟩
      obtain ⟨c, hc⟩ : ∃ c : Cx, c = ⟨E, d, p, lk, k, none, K, block⟩ := ⟨_, rfl⟩
      have hcE : c.E = E := by rw [hc]
      have hcd : c.d = d := by rw [hc]
      have hcp : c.p = p := by rw [hc]
      have hck : c.k = k := by rw [hc]
      have hcK : c.K = K := by rw [hc]
      have hcb : c.block = block := by rw [hc]
      have hrY := HRY.out
      rw [← hc] at hrY
      clear hc HRY
      subst hcE hcd hcp hck hcK hcb
      obtain ⟨s0, hs0⟩ : ∃ s0 : RSt, s0 = { D := mountD (c.block : Int) 1099511627776 (rdFs F c.block), S := PSt.new lim, next := 1 } := ⟨_, rfl⟩
      rw [← hs0] at hrY
      have hP : RdG c how L s0 := ⟨by rw [hs0, HFF.out]; exact mount_calm _ _, by rw [hs0, HLIM.out], HO.out, hle, by rw [hs0]; exact mount_quiet _ _ _, HK.out, hK0⟩
      clear hs0
      have l14 : Hid (w3.heap.size < w4.heap.size) := by have h1 := BR.out.lt; have h2 := K4.out.size; exact Hid.intro_ (by omega)
      have lX : Hid (w.heap.size < X.heap.size ∧ X.heap.size ≤ Y.heap.size) := Hid.intro_ ⟨BWX.out.lt, KXY.out.size⟩
      have l4 : Hid (Y.heap.size ≤ w4.heap.size) := Hid.intro_ K4.out.size
      have hrV0 := hrY.nil KV0.out
      have hoff : Off c.E G w4.heap.size := Off.new hrY.env hrY.lt l4.out
      have hrV := hrV0.keep HKV.out (fun z hz e => by
        have e : z = w4.heap.size := e
        exact hoff.1 (by rw [← e]; exact hz)) ⟨⟨hrV0.env.errs.errs, fun i hi e => (hoff.2.1 i hi).1 e, fun i hi e => (hoff.2.1 i hi).2 e⟩, hrV0.env.halves, hrV0.env.magic, fun e => hoff.2.2.1 (Eq.symm e), fun e => hoff.2.2.2 (Eq.symm e)⟩
      have HON := Hid.intro_ (RmOn.start hrV)
      have FIX : Hid (∀ wr, Keep G V wr → RdFix c X.heap.size w3.heap.size w.heap.size w5.heap.size A Ai cap ci b L si b1 b2 b3 As cs how wr) := Hid.intro_ (fun wr kr => by
        have g1 := lX.out
        have g2 := l14.out
        have g3 := l45.out
        have g4 := l4.out
        have nR : ¬ G w3.heap.size := fun h => Nat.lt_irrefl _ (HGL.out _ h)
        have nC : ¬ G w.heap.size := fun h => by have := HGX.out _ h; omega
        have nI : ¬ G w5.heap.size := fun h => by have := HGL.out _ h; omega
        have bR := ((BR.out.keep KV0.out (fun h => h)).keep HKV.out (fun h => by have h : w3.heap.size = w4.heap.size := h; omega)).keep kr nR
        have bC := ((HCASE.out.keep KV0.out (fun h => h)).keep HKV.out (fun h => by have h : w.heap.size = w4.heap.size := h; omega)).keep kr nC
        have bI := (B16.out.keep HKV.out (fun h => by have h : w5.heap.size = w4.heap.size := h; omega)).keep kr nI
        refine ⟨bR.at_ 0, bR.at_ 1, bR.at_ 2, bR.at_ 3, bR.at_ 4, bC.at_ 0, bC.at_ 1, bI.at_ 0, bI.at_ 1, bI.at_ 2, ?_, ?_⟩
        · exact ((HR.out.keep (KY.out.then_ KV0.out) (fun _ _ _ h => h)).keep HKV.out (fun a e hne h => by have h : a.block = w4.heap.size := h; have := (HA.out (fun e2 => hne (by rw [e2]; rfl)) a e).2; omega)).keep kr (fun a e hne h => by have := (HA.out (fun e2 => hne (by rw [e2]; rfl)) a e).2; have := HGX.out _ h; omega)
        · have := ((HSTX.out.nil (KXY.out.then_ KV0.out)).keep HKV.out (fun z hz _ h => by have h : z = w4.heap.size := h; omega)).keep kr (fun z hz _ h => by have := HGX.out _ h; omega)
          rw [HFF.out] at this
          exact this)
      have HKEEP : Hid (∀ wr, Keep G V wr → Keep Nil w wr) := Hid.intro_ (fun wr kr => ((KY.out.then_ KV0.out).trans HKV.out (fun z hz e => by have e : z = w4.heap.size := e; have := lX.out; have := l4.out; omega)).trans kr (fun z hz h => by have := HGX.out _ h; have := lX.out; omega))
      have HSCR : Hid (Rd V Ai (si.map fun x => .int .i64 x) ∧ (si ≠ [] → ∀ a, Ai = some a → a.spot = none ∧ ¬ G a.block ∧ a.block < V.heap.size)) := Hid.intro_ (by
        have g1 := lX.out
        have g4 := l4.out
        have g5 := KV0.out.size
        have g6 := HKV.out.size
        refine ⟨(HI.out.keep (KY.out.then_ KV0.out) (fun _ _ _ h => h)).keep HKV.out (fun a e hne h => by have h : a.block = w4.heap.size := h; have := (HAI.out (fun e2 => hne (by rw [e2]; rfl)) a e).2; omega), fun hs a e => ⟨(HAI.out hs a e).1, fun h => by have := HGX.out _ h; have := (HAI.out hs a e).2; omega, by have := (HAI.out hs a e).2; omega⟩⟩)
      have HI14 : Hid (∀ wr, Keep G V wr → Blk wr w4.heap.size 72 #[.int .i64 a1, .int .u64 a2, .int .i64 a3]) := Hid.intro_ (fun wr kr => HB14.out.keep kr (fun h => by have := HGL.out _ h; have := l14.out; omega))
      have HLOOK : Hid (∀ wr, RmOn c G s0 V wr → Calls Tryz.prog 26 #[.pointer (some ⟨c.k, 0, none⟩), .string nm] wr fun e w' => e = .returned (.tuple #[.agg #[.int .i64 a1, .int .u64 a2, .int .i64 a3], .int .i64 n1]) ∧ Hid (RmOn c G s0 V w')) := Hid.intro_ (fun wr h => by
        have := h.look hP
        rw [← HNM.out, ← HN1.out, HAA.out] at this
        exact this)
      have HKEPT : Hid (∀ wr, RmOn c G s0 V wr → Calls Tryz.prog 14 #[.agg #[.pointer (some ⟨c.d, 0, none⟩), .pointer (some ⟨c.p, 0, none⟩), .pointer (some ⟨c.k, 0, none⟩), .int .i64 c.block, .slice As 3 cs]] wr fun e w' => e = .returned (.bool true) ∧ Hid (RmOn c G s0 V w')) := Hid.intro_ (fun wr h => h.kept hP (FIX.out wr h.keep).state)
      have HQUI : Hid (∀ wr, RmOn c G s0 V wr → Calls Tryz.prog 32 #[.agg #[.pointer (some ⟨c.d, 0, none⟩), .pointer (some ⟨c.p, 0, none⟩), .pointer (some ⟨c.k, 0, none⟩), .int .i64 c.block, .slice As 3 cs]] wr fun e w' => e = .returned (.bool true) ∧ Hid (Keep Nil wr w')) := Hid.intro_ (fun wr h => h.quiet hP)
      have HP := Hid.intro_ hP
      have eqi := fun w => neq_info a1 a2 a3 w
      have q1 : (n1 != n1) = false := by simp
      have q2 : (n2 != n2) = false := by simp
      clear HFI HEND HOPD HZ0 HZ1 HLM HLIM HBL HFT HHU HB1 HR HA HO HI HAI HE HH HM HK KW BW HFL KF KX HSTX BWX HOP HEX HHX HMX KY KXY HCASE BR HGX HGL K4 B4 KZ4 l45 KV0 B14 B16 HB14 HKV hrY hP l14 lX l4 hrV0 hrV hoff HFF HAA HN1 hb hcap hlim2 hK0 hK9
      have FX := FIX.out V (Keep.refl _ _)
      have r0 := FX.r0
      have r1 := FX.r1
      have r2 := FX.r2
      have r3 := FX.r3
      have r4 := FX.r4
      have q0 := FX.q0
      have q1 := FX.q1
      have t0 := FX.t0
      have t1 := FX.t1
      have t2 := FX.t2
      clear FX
      go_wp2_with fail
      refine (HLOOK.out _ HON.out).mono ?_
      rintro e w6 ⟨rfl, HON6⟩
      obtain ⟨V6, hV6⟩ : ∃ V6, V6 = w6.alloc (.cells #[.int .i64 a1, .int .u64 a2, .int .i64 a3] 72) := ⟨_, rfl⟩
      have k6 : Keep Nil w6 V6 := by rw [hV6]; exact (Keep.refl Nil w6).alloc _
      have b18 : Blk V6 w6.heap.size 72 #[.int .i64 a1, .int .u64 a2, .int .i64 a3] := by rw [hV6]; exact Blk.new w6 _ _
      have b14 := (HI14.out w6 HON6.out.keep).keep k6 (fun h => h)
      have x0 : V6.cell? ⟨w6.heap.size, 0, none⟩ = some (.int .i64 a1) := b18.at_ 0
      have x1 : V6.cell? ⟨w6.heap.size, 1, none⟩ = some (.int .u64 a2) := b18.at_ 1
      have x2 : V6.cell? ⟨w6.heap.size, 2, none⟩ = some (.int .i64 a3) := b18.at_ 2
      have y0 : V6.cell? ⟨w4.heap.size, 0, none⟩ = some (.int .i64 a1) := b14.at_ 0
      have y1 : V6.cell? ⟨w4.heap.size, 1, none⟩ = some (.int .u64 a2) := b14.at_ 1
      have y2 : V6.cell? ⟨w4.heap.size, 2, none⟩ = some (.int .i64 a3) := b14.at_ 2
      have ONV := Hid.intro_ (HON6.out.nil k6)
      clear k6 b18 b14
      clear r0 r1 r2 r3 r4 q0 q1 t0 t1 t2
      have FX := FIX.out V6 ONV.out.keep
      have r0 := FX.r0
      have r1 := FX.r1
      have r2 := FX.r2
      have r3 := FX.r3
      have r4 := FX.r4
      have q0 := FX.q0
      have q1 := FX.q1
      have t0 := FX.t0
      have t1 := FX.t1
      have t2 := FX.t2
      clear FX
      go_upto_region 18 with (fail)
      rw [← hV6]
      clear hV6
      go_wp2_with fail
      refine (HKEPT.out _ ONV.out).mono ?_
      rintro e w7 ⟨rfl, HON7⟩
      clear x0 x1 x2 y0 y1 y2
      clear r0 r1 r2 r3 r4 q0 q1 t0 t1 t2
      have FX := FIX.out w7 HON7.out.keep
      have r0 := FX.r0
      have r1 := FX.r1
      have r2 := FX.r2
      have r3 := FX.r3
      have r4 := FX.r4
      have q0 := FX.q0
      have q1 := FX.q1
      have t0 := FX.t0
      have t1 := FX.t1
      have t2 := FX.t2
      clear FX
      go_wp2_with fail
      by_cases hz : n2 = 0
      · obtain ⟨v, r, m, hy⟩ := rd_yes HP.out (by rw [← HN2.out]; exact hz)
        have hab := HAB.out
        rw [hy.opens] at hab
        simp only [ansV, inV, Value.agg.injEq, Array.mk.injEq, List.cons.injEq, Value.int.injEq, true_and, and_true] at hab
        obtain ⟨hv1, hv2, hv3⟩ := hab
        obtain rfl : v = b1 := by omega
        obtain rfl : r = b2 := by omega
        obtain rfl : m = b3 := by omega
        clear hv1 hv2 hv3 HN2 q2
        subst hz
        have hup := RmOn.up_yes HP.out HON7.out hy
        rw [← HNM.out] at hup
        have hdn := fun wr (h : RmOn c G s0 V wr) => RmOn.down_yes HP.out h hy
        rw [← HNM.out] at hdn
        have hupl := fun wr (h : Keep G V wr) => up_law A cap v r m L wr (FIX.out wr h).recs HP.out.oks (by omega) hy.len hy.vars
        have hdnl := fun wr (h : Keep G V wr) => down_law A cap v r m L wr (FIX.out wr h).recs HP.out.oks (by omega) hy.len hy.vars
        have lu : (walkN true v r m (L.take m) 0 n0).1.length ≤ 1099511627776 := by
          have h1 := walkN_len true v r m (L.take m) 0 n0
          have h2 : (L.take m).length ≤ L.length := by rw [List.length_take]; omega
          omega
        have ld : (walkN false v r m (L.take m).reverse 0 n0).1.length ≤ 1099511627776 := by
          have h1 := walkN_len false v r m (L.take m).reverse 0 n0
          have h2 : (L.take m).reverse.length ≤ L.length := by rw [List.length_reverse, List.length_take]; omega
          omega
        generalize (walkN true v r m (L.take m) 0 n0).1 = lup at *
        generalize (walkN true v r m (L.take m) 0 n0).2 = bup at *
        generalize (walkN false v r m (L.take m).reverse 0 n0).1 = ldn at *
        generalize (walkN false v r m (L.take m).reverse 0 n0).2 = bdn at *
        have HUP := Hid.intro_ hup
        have HDN := Hid.intro_ hdn
        have HUPL := Hid.intro_ hupl
        have HDNL := Hid.intro_ hdnl
        have HY := Hid.intro_ hy
        have HLU := Hid.intro_ lu
        have HLD := Hid.intro_ ld
        clear hup hdn hupl hdnl hy lu ld
        refine HUP.out.mono ?_
        rintro e w8 ⟨cb, rfl, hcu⟩
        have HCU := Hid.intro_ hcu
        clear hcu
        clear r0 r1 r2 r3 r4 q0 q1 t0 t1 t2
        have FX := FIX.out w8 HCU.out.keep
        have r0 := FX.r0
        have r1 := FX.r1
        have r2 := FX.r2
        have r3 := FX.r3
        have r4 := FX.r4
        have q0 := FX.q0
        have q1 := FX.q1
        have t0 := FX.t0
        have t1 := FX.t1
        have t2 := FX.t2
        clear FX
        go_wp2_with fail
        refine (HUPL.out _ HCU.out.keep).mono ?_
        rintro e w9 ⟨u, rfl, ho9, k9⟩
        obtain ⟨An, cn, rfl⟩ := own_form ho9
        have HO9 := Hid.intro_ ho9
        have K9 := Hid.intro_ k9
        clear ho9 k9
        clear r0 r1 r2 r3 r4 q0 q1 t0 t1 t2
        have FX := FIX.out w9 (HCU.out.nil K9.out).keep
        have r0 := FX.r0
        have r1 := FX.r1
        have r2 := FX.r2
        have r3 := FX.r3
        have r4 := FX.r4
        have q0 := FX.q0
        have q1 := FX.q1
        have t0 := FX.t0
        have t1 := FX.t1
        have t2 := FX.t2
        clear FX
        go_wp2_with fail
        refine (CuOn.goes HP.out HY.out HCU.out K9.out HLU.out hsl HO9.out (Nat.le_succ _) HSCR.out.1 HSCR.out.2).mono ?_
        rintro e w10 ⟨rfl, hon⟩
        have ON10 := Hid.intro_ hon
        clear hon
        clear r0 r1 r2 r3 r4 q0 q1 t0 t1 t2
        have FX := FIX.out w10 ON10.out.keep
        have r0 := FX.r0
        have r1 := FX.r1
        have r2 := FX.r2
        have r3 := FX.r3
        have r4 := FX.r4
        have q0 := FX.q0
        have q1 := FX.q1
        have t0 := FX.t0
        have t1 := FX.t1
        have t2 := FX.t2
        clear FX
        go_wp2_with fail
        refine (HDN.out _ ON10.out).mono ?_
        rintro e w11 ⟨cb2, rfl, hcu⟩
        have HCU2 := Hid.intro_ hcu
        clear hcu
        clear r0 r1 r2 r3 r4 q0 q1 t0 t1 t2
        have FX := FIX.out w11 HCU2.out.keep
        have r0 := FX.r0
        have r1 := FX.r1
        have r2 := FX.r2
        have r3 := FX.r3
        have r4 := FX.r4
        have q0 := FX.q0
        have q1 := FX.q1
        have t0 := FX.t0
        have t1 := FX.t1
        have t2 := FX.t2
        clear FX
        go_wp2_with fail
        refine (HDNL.out _ HCU2.out.keep).mono ?_
        rintro e w12 ⟨u2, rfl, ho12, k12⟩
        obtain ⟨An2, cn2, rfl⟩ := own_form ho12
        have HO12 := Hid.intro_ ho12
        have K12 := Hid.intro_ k12
        clear ho12 k12
        clear r0 r1 r2 r3 r4 q0 q1 t0 t1 t2
        have FX := FIX.out w12 (HCU2.out.nil K12.out).keep
        have r0 := FX.r0
        have r1 := FX.r1
        have r2 := FX.r2
        have r3 := FX.r3
        have r4 := FX.r4
        have q0 := FX.q0
        have q1 := FX.q1
        have t0 := FX.t0
        have t1 := FX.t1
        have t2 := FX.t2
        clear FX
        go_wp2_with fail
        refine (CuOn.goes HP.out HY.out HCU2.out K12.out HLD.out hsl HO12.out (Nat.le_succ _) HSCR.out.1 HSCR.out.2).mono ?_
        rintro e w13 ⟨rfl, hon⟩
        have ON13 := Hid.intro_ hon
        clear hon
        clear r0 r1 r2 r3 r4 q0 q1 t0 t1 t2
        have FX := FIX.out w13 ON13.out.keep
        have r0 := FX.r0
        have r1 := FX.r1
        have r2 := FX.r2
        have r3 := FX.r3
        have r4 := FX.r4
        have q0 := FX.q0
        have q1 := FX.q1
        have t0 := FX.t0
        have t1 := FX.t1
        have t2 := FX.t2
        clear FX
        go_wp2_with fail
        refine (HKEPT.out _ ON13.out).mono ?_
        rintro e w14 ⟨rfl, ON14⟩
        clear r0 r1 r2 r3 r4 q0 q1 t0 t1 t2
        have FX := FIX.out w14 ON14.out.keep
        have r0 := FX.r0
        have r1 := FX.r1
        have r2 := FX.r2
        have r3 := FX.r3
        have r4 := FX.r4
        have q0 := FX.q0
        have q1 := FX.q1
        have t0 := FX.t0
        have t1 := FX.t1
        have t2 := FX.t2
        clear FX
        go_wp2_with fail
        refine (HQUI.out _ ON14.out).mono ?_
        rintro e w15 ⟨rfl, K15⟩
        go_wp2_with fail
        go_ret
        exact ⟨rfl, (HKEEP.out _ ON14.out.keep).then_ K15.out⟩
      · have hz2 : ¬ rdN2 how L = 0 := by rw [← HN2.out]; exact hz
        have q3 : (n2 != 0) = true := by simpa using hz
        have q4 : (n2 == n2) = true := by simp
        have hup := RmOn.up_no HP.out HON7.out hz2
        rw [← HNM.out, ← HN2.out] at hup
        have hdn := fun wr (h : RmOn c G s0 V wr) => RmOn.down_no HP.out h hz2
        rw [← HNM.out, ← HN2.out] at hdn
        have HUP := Hid.intro_ hup
        have HDN := Hid.intro_ hdn
        clear hup hdn hz hz2
        refine HUP.out.mono ?_
        rintro e w8 ⟨rfl, hon⟩
        have ON8 := Hid.intro_ hon
        clear hon
        clear r0 r1 r2 r3 r4 q0 q1 t0 t1 t2
        have FX := FIX.out w8 ON8.out.keep
        have r0 := FX.r0
        have r1 := FX.r1
        have r2 := FX.r2
        have r3 := FX.r3
        have r4 := FX.r4
        have q0 := FX.q0
        have q1 := FX.q1
        have t0 := FX.t0
        have t1 := FX.t1
        have t2 := FX.t2
        clear FX
        go_wp2_with fail
        refine (HDN.out _ ON8.out).mono ?_
        rintro e w9 ⟨rfl, hon⟩
        have ON9 := Hid.intro_ hon
        clear hon
        clear r0 r1 r2 r3 r4 q0 q1 t0 t1 t2
        have FX := FIX.out w9 ON9.out.keep
        have r0 := FX.r0
        have r1 := FX.r1
        have r2 := FX.r2
        have r3 := FX.r3
        have r4 := FX.r4
        have q0 := FX.q0
        have q1 := FX.q1
        have t0 := FX.t0
        have t1 := FX.t1
        have t2 := FX.t2
        clear FX
        go_wp2_with fail
        refine (HKEPT.out _ ON9.out).mono ?_
        rintro e w10 ⟨rfl, ON10⟩
        go_wp2_with fail
        go_ret
        exact ⟨rfl, HKEEP.out _ ON10.out.keep⟩
set_option maxRecDepth 100000 in
set_option maxHeartbeats 1000000 in
/-- More records than any disk holds. -/
theorem reads_huge (w : World) (b how : Int) (A : Option Addr) (n cap : Nat) (scr : Value) (hn : 268435456 < n) :
    Calls Tryz.prog 4 #[.agg #[.slice A n cap, .int .i64 b], scr, .int .i64 how] w fun e w' => e = .returned (.bool true) ∧ Keep Nil w w' := by
  have hhu : ∀ W, Calls Tryz.prog 8 #[.int .i64 n] W fun e w' => e = .returned (.bool true) ∧ w' = W := fun W => by
    have := huge_any n W
    rw [decide_eq_true (by omega)] at this
    exact this
  have k0 := (Keep.refl Nil w).alloc (.cells #[.slice A n cap, .int .i64 b] 67)
  go_enter Tryz.func4, Tryz.ntmps4
  go_wp2_with (go_at_call 8; refine (hhu _).mono ?_; rintro e w' ⟨rfl, rfl⟩)
  go_ret
  exact ⟨rfl, k0⟩
end Go.Proofs.YtadipinnbehhhaaGreatDoor
namespace Go.Proofs.YtadipinnbehhhaaGreatDoor
open Go.ChangeShapes Go.WideShapes Go.ChangeAt Go.WideMaps Go.WideElems Go.RowKit

theorem kOwn : ownKnob Tryz.prog.godebug = none := by kernel_rfl
theorem kOut : laidOutB Tryz.prog = true := by kernel_rfl
theorem kStar : "*" ++ "errors.errorString" = "*errors.errorString" := by decide
/-- That type's name has one row. -/
theorem kRow (u : TypeId) (h : Tryz.prog.typeName? 3 u = some "*errors.errorString") : u = 421 :=
  typeName_ptr_named (nm := "errors.errorString") (by rw [kStar]; kernel_rfl) (by kernel_rfl) (by decide) u (by rw [kStar]; exact h)
theorem kCellE : Tryz.prog.cellsOf 444 = 1 := by kernel_rfl
theorem kCellS : Tryz.prog.cellsOf 9 = 1 := by kernel_rfl
/-- Listed errors: the variable, its text. -/
def errList (l : List (String × List UInt8 × Nat)) : List (String × DataW Unit) := l.map fun x => (x.1, .iface "*errors.errorString" (.ptr (.agg [.lit (.string x.2.1)])))
set_option maxRecDepth 100000 in
theorem errs_of {W : World} : ∀ (l : List (String × List UInt8 × Nat)) (ps : List MemPlace),
    (∀ x ∈ l, Tryz.prog.globalNamed x.1 = some x.2.2 ∧ (Tryz.prog.globals[x.2.2]?).map (·.type) = some 295) → DataW.LaidVars Tryz.prog W (errList l) ps →
    (∀ b off, MemPlace.cell b off ∈ ps → (∃ c t, W.heap[b]? = some (.cells c t (0, 0))) ∧ ∀ u v, W.cell? ⟨b, off, none⟩ = some (.iface u v) → Value.okWide Tryz.prog W .any 0 u v) →
    ∃ bs : List Addr, bs.length = l.length ∧ (∀ (k : Nat) x a, l[k]? = some x → bs[k]? = some a → W.cell? ⟨x.2.2, 0, none⟩ = some (.iface 421 (.pointer (some a)))) ∧ (bs.map fun a => MemPlace.cell a.block a.off).Sublist ps
  | [], ps, _, _, _ => ⟨[], rfl, fun k x a h => by simp at h, List.nil_sublist _⟩
  | x :: l, ps, hg, h, hrows => by
    obtain ⟨g0, t0, cs0, f0, p0, q0, hg0, ht0, hv0, hd0, hr, e0⟩ := h
    obtain ⟨e1, e2⟩ := hg x (List.mem_cons_self ..)
    obtain rfl := Option.some.inj (e1.symm.trans hg0)
    obtain rfl := Option.some.inj (e2.symm.trans ht0)
    subst e0
    obtain ⟨l0⟩ := cs0
    have ok0 : ∀ u v, l0 = [.iface u v] → Value.okWide Tryz.prog W .any 0 u v := fun u v e => by
      subst e
      exact (hrows x.2.2 0 (by simp [MemPlace.row])).2 u v (by simpa using World.var?_cell hg0 hv0 0)
    obtain ⟨a0, s0, rfl, hc0, hs0, hz0, rfl⟩ := errorString_of_trod Tryz.underlying295 kRow Tryz.underlying421 Tryz.underlying444 rfl rfl Tryz.underlying9 kCellE kCellS hd0 ok0
    obtain ⟨bs, h1, h2, h3⟩ := errs_of l q0 (fun y hy => hg y (List.mem_cons_of_mem _ hy)) hr (fun b off hb => hrows b off (List.mem_append_right _ hb))
    refine ⟨a0 :: bs, by simp [h1], fun k y a hy ha => ?_, ?_⟩
    · match k with
      | 0 =>
        simp only [List.getElem?_cons_zero, Option.some.injEq] at hy ha
        subst hy ha
        simpa using World.var?_cell hg0 hv0 0
      | k + 1 => exact h2 k y a (by simpa using hy) (by simpa using ha)
    · rw [List.map_cons]
      refine (List.Sublist.append (l₁ := [_]) ?_ h3)
      rw [List.singleton_sublist]
      simp [MemPlace.row]
/-- A listed row of numbers. -/
theorem nums_of {W : World} {t e : TypeId} {n fuel : Nat} {k : IntKind} {cs : Array Value} {ns : List Int} {p : List MemPlace} (ht : Tryz.prog.underlying t = some (.array n e)) (he : Tryz.prog.underlying e = some (.int k)) (hc : Tryz.prog.cellsOf e = 1)
    (h : DataW.trod (fun _ => ()) Tryz.prog W 0 (fun _ => true) false fuel t cs.toList = some (.agg (ns.map fun x => .lit (.int k x)), p)) (i : Nat) (x : Int) (hx : ns[i]? = some x) : cs[i]? = some (.int k x) := by
  obtain ⟨xs, m, _, e1, _, hl, hat⟩ := DataW.trod_array ht h
  simp only [Prod.mk.injEq, DataW.agg.injEq] at e1
  have hlen := congrArg List.length e1.1
  simp only [List.length_map] at hlen
  have hi := (List.getElem?_eq_some_iff.1 hx).1
  have h1 := hat i (by omega)
  rw [hc, Nat.mul_one] at h1
  have h2 : xs[i]? = some (xs[i]'(by omega)) := List.getElem?_eq_getElem (by omega)
  rw [h2] at h1
  obtain ⟨y, hy1, hy2, _⟩ := DataW.trod_int he h1
  have h3 : (ns.map fun x => (DataW.lit (.int k x) : DataW Unit))[i]? = some (.lit (.int k x)) := by rw [List.getElem?_map, hx]; rfl
  rw [e1.1, List.getElem?_map, h2, hy2] at h3
  simp only [Option.map_some, Option.some.injEq, DataW.lit.injEq, Lit.int.injEq] at h3
  rw [h3.2] at hy1
  have h4 : (cs.toList.drop i)[0]? = some (.int k x) := by
    have := congrArg (·[0]?) hy1
    simpa [List.getElem?_take] using this
  rw [List.getElem?_drop] at h4
  simpa using h4
theorem kgH : Tryz.prog.globalNamed "strata/recs.halves" = some 11 := by kernel_rfl
theorem kgM : Tryz.prog.globalNamed "strata/recs.magic" = some 9 := by kernel_rfl
theorem ktH : (Tryz.prog.globals[11]?).map (·.type) = some 406 := by kernel_rfl
theorem ktM : (Tryz.prog.globals[9]?).map (·.type) = some 383 := by kernel_rfl
theorem kc32 : Tryz.prog.cellsOf 236 = 1 := by kernel_rfl
theorem kc8 : Tryz.prog.cellsOf 5 = 1 := by kernel_rfl
def nine : List (String × List UInt8 × Nat) :=
  [("strata/disk.errOff", [116, 104, 101, 32, 112, 111, 119, 101, 114, 32, 105, 115, 32, 111, 102, 102], 0), ("strata/disk.errName", [110, 111, 32, 110, 97, 109, 101], 1),
   ("strata/disk.errNoFile", [110, 111, 32, 115, 117, 99, 104, 32, 102, 105, 108, 101], 5), ("strata/disk.errExists", [116, 104, 101, 114, 101, 32, 105, 115, 32, 115, 117, 99, 104, 32, 97, 32, 102, 105, 108, 101], 2),
   ("strata/disk.errSealed", [115, 101, 97, 108, 101, 100], 4), ("strata/disk.errOpen", [110, 111, 116, 32, 115, 101, 97, 108, 101, 100], 6),
   ("strata/disk.errBlock", [110, 111, 32, 115, 117, 99, 104, 32, 98, 108, 111, 99, 107], 7), ("strata/disk.errFull", [110, 111, 32, 98, 108, 111, 99, 107, 32, 105, 115, 32, 102, 114, 101, 101], 8),
   ("strata/disk.errFault", [97, 32, 102, 97, 117, 108, 116], 3)]
theorem kNine : ∀ x ∈ nine, Tryz.prog.globalNamed x.1 = some x.2.2 ∧ (Tryz.prog.globals[x.2.2]?).map (·.type) = some 295 := by
  intro x hx
  simp only [nine, List.mem_cons, List.not_mem_nil, or_false] at hx
  rcases hx with rfl | rfl | rfl | rfl | rfl | rfl | rfl | rfl | rfl <;> exact ⟨by kernel_rfl, by kernel_rfl⟩
theorem nine_var : ∀ k, k < 9 → ∃ x, nine[k]? = some x ∧ x.2.2 = errVar k := by
  intro k hk
  match k with
  | 0 => exact ⟨_, rfl, rfl⟩
  | 1 => exact ⟨_, rfl, rfl⟩
  | 2 => exact ⟨_, rfl, rfl⟩
  | 3 => exact ⟨_, rfl, rfl⟩
  | 4 => exact ⟨_, rfl, rfl⟩
  | 5 => exact ⟨_, rfl, rfl⟩
  | 6 => exact ⟨_, rfl, rfl⟩
  | 7 => exact ⟨_, rfl, rfl⟩
  | 8 => exact ⟨_, rfl, rfl⟩
/-- The two tables and the nine errors, as they are listed. -/
def eleven : List (String × DataW Unit) := ("strata/recs.halves", Go.Proofs.YtadipinnbehhhaaGreatDoor.Rows.laid_strata_recs_halves) :: ("strata/recs.magic", Go.Proofs.YtadipinnbehhhaaGreatDoor.Rows.laid_strata_recs_magic) :: errList nine
theorem half_list : ∀ i, i < 16 → ([0, 498536548, 997073096, 651767980, 1994146192, 1802195444, 1303535960, 1342533948, 3988292384, 4027552580, 3604390888, 3412177804, 2607071920, 2262029012, 2685067896, 3183342108] : List Int)[i]? = some (half i : Int) := by decide +kernel
/-- What the listed variables give a walk. -/
theorem laid_gives {W : World} (h : laidMet Tryz.prog eleven W) : ∃ E, ErrsAt W E ∧ HalvesAt W ∧ MagicAt W := by
  obtain ⟨ps, ⟨g0, t0, cs0, f0, p0, q0, hg0, ht0, hv0, hd0, ⟨g1, t1, cs1, f1, p1, q1, hg1, ht1, hv1, hd1, hr, e1⟩, e0⟩, hnd, hrows⟩ := h
  obtain rfl := Option.some.inj (kgH.symm.trans hg0)
  obtain rfl := Option.some.inj (kgM.symm.trans hg1)
  obtain rfl := Option.some.inj (ktH.symm.trans ht0)
  obtain rfl := Option.some.inj (ktM.symm.trans ht1)
  have hq : ∀ x, x ∈ q1 → x ∈ ps := fun x hx => by rw [e0, e1]; exact List.mem_append_right _ (List.mem_append_right _ hx)
  have hsub : q1.Sublist ps := by rw [e0, e1]; exact (List.sublist_append_right _ _).trans (List.sublist_append_right _ _)
  obtain ⟨bs, h1, h2, h3⟩ := errs_of nine q1 kNine hr (fun b off hb => hrows b off (hq _ hb))
  have h9 : bs.length = 9 := h1
  have hnd2 : (bs.map fun a => MemPlace.cell a.block a.off).Nodup := (hnd.sublist hsub).sublist h3
  have hat : ∀ k, k < 9 → bs[k]? = some (bs.getD k ⟨0, 0, none⟩) := fun k hk => by
    rw [List.getD_eq_getElem?_getD, List.getElem?_eq_getElem (by omega)]
    rfl
  have hplace : ∀ k, k < 9 → MemPlace.cell (bs.getD k ⟨0, 0, none⟩).block (bs.getD k ⟨0, 0, none⟩).off ∈ ps := fun k hk => by
    refine hq _ (h3.mem ?_)
    exact List.mem_map.2 ⟨_, List.mem_of_getElem? (hat k hk), rfl⟩
  have hvar : ∀ k, k < 9 → W.cell? ⟨errVar k, 0, none⟩ = some (.iface 421 (.pointer (some (bs.getD k ⟨0, 0, none⟩)))) := fun k hk => by
    obtain ⟨x, hx, e⟩ := nine_var k hk
    rw [← e]
    exact h2 k x _ hx (hat k hk)
  refine ⟨fun k => bs.getD k ⟨0, 0, none⟩, ⟨hvar, fun k hk => cell_lt (hvar k hk), fun k hk => (hrows _ _ (hplace k hk)).1, fun j k hj hk hne e => ?_⟩, fun i hi => ?_, fun i x hx => ?_⟩
  · have a1 : (bs.map fun a => MemPlace.cell a.block a.off)[j]? = some (.cell (bs.getD j ⟨0, 0, none⟩).block (bs.getD j ⟨0, 0, none⟩).off) := by rw [List.getElem?_map, hat j hj]; rfl
    have a2 : (bs.map fun a => MemPlace.cell a.block a.off)[k]? = some (.cell (bs.getD j ⟨0, 0, none⟩).block (bs.getD j ⟨0, 0, none⟩).off) := by rw [List.getElem?_map, hat k hk, show bs.getD j ⟨0, 0, none⟩ = bs.getD k ⟨0, 0, none⟩ from e]; rfl
    exact hne (nodup_eq hnd2 a1 a2)
  · rw [World.var?_cell hg0 hv0 i]
    exact nums_of (ns := [0, 498536548, 997073096, 651767980, 1994146192, 1802195444, 1303535960, 1342533948, 3988292384, 4027552580, 3604390888, 3412177804, 2607071920, 2262029012, 2685067896, 3183342108]) Tryz.underlying406 Tryz.underlying236 kc32 hd0 i _ (half_list i hi)
  · rw [World.var?_cell hg1 hv1 i]
    exact nums_of (ns := [83, 84, 82, 65]) Tryz.underlying383 Tryz.underlying5 kc8 hd1 i x hx
/-- Data read as they did, where what they lie in is as it was. -/
theorem trodAll_stays {H : Type} {enc : TypeId × Value → H} {P : Program} (hl : laidOutB P = true) {W W' : World} {sp : Nat → Bool} : ∀ (ts : List TypeId) {vs : List Value} {ds : List (DataW H)} {ps : List MemPlace}, (∀ t ∈ ts, P.readableRec t = true ∧ t < P.types.size) →
    DataW.TrodAll enc P W 0 (fun _ => true) true ts vs ds ps → (∀ p ∈ ps, W.sameAt W' p) → (∀ p ∈ ps, sp p.block = true) → DataW.TrodAll enc P W' 0 sp true ts vs ds ps
  | [], vs, ds, ps, _, h, _, _ => by
    obtain ⟨rfl, rfl, rfl⟩ := trodAll_nil h
    exact h
  | t :: ts, vs, ds, ps, hr, h, hs, hp => by
    obtain ⟨v, vs', d, ds', p, q, rfl, rfl, rfl, hd, hrest⟩ := trodAll_cons h
    obtain ⟨h1, h2⟩ := hr t (List.mem_cons_self ..)
    exact ⟨p, q, Trod_stays hl h1 h2 hd (fun x hx => hs x (List.mem_append_left _ hx)) (fun x hx => hp x (List.mem_append_left _ hx)), trodAll_stays hl ts (fun t ht => hr t (List.mem_cons_of_mem _ ht)) hrest (fun x hx => hs x (List.mem_append_right _ hx)) (fun x hx => hp x (List.mem_append_right _ hx)), rfl⟩
/-- A law's row, from a walk that leaves all that was there as it was. -/
theorem law_post {H : Type} {enc : TypeId × Value → H} {f : Func} {s : ChangeSpec} {W W' : World} {args : Array Value} {ds : List (DataW H)} {before : List MemPlace} (hW : DataW.Whole enc Tryz.prog f.params.toList s.vars false W args.toList ds [] before) (hv : s.vars = [])
    (hA : DataW.TrodAll enc Tryz.prog W 0 (fun _ => true) true f.params.toList args.toList ds before) (hfn : s.fn H (ds ++ []) = { results := [.lit (.bool true)], args := ds }) (hr : ∀ t ∈ f.params.toList, Tryz.prog.readableRec t = true ∧ t < Tryz.prog.types.size) (hrt : f.resultTypes = #[4]) (k : Keep Nil W W') :
    s.post enc Tryz.prog f false true false false W args (.bool true) W' := by
  have hb : Below W.heap.size W W' := k.below (fun _ _ _ h => h) (Nat.le_refl _)
  have hlt : ∀ p ∈ before, p.block < W.heap.size := fun p hp => hW.lt p hp
  refine ⟨ds, [], before, [], before, [], hW, ?_, ?_, ?_, World.keptBut_mono (fun p hp => ⟨hp, .inr (by simpa using hp)⟩) (hb.frame (· ∈ before)), fun h => by cases h⟩
  · rw [hfn, hrt]
    exact trodAll_mk1 (shut_bool Tryz.underlying4 true)
  · rw [hfn]
    exact trodAll_stays kOut _ hr hA (fun p hp => hb.same (hlt p hp)) (fun p hp => by simpa using hlt p hp)
  · rw [hv, hfn]
    rfl
end Go.Proofs.YtadipinnbehhhaaGreatDoor
namespace Go.Proofs.YtadipinnbehhhaaGreatDoor
open Go.ChangeShapes Go.WideShapes Go.ChangeAt Go.WideMaps Go.WideElems Go.RowKit Go.Deep

/-- One number's bounds. -/
theorem wf_range {k : IntKind} {n : Int} (h : (Lit.int k n).wf = true) : k.min ≤ n ∧ n ≤ k.max := by simpa [Lit.wf] using h
/-- The door's own heap meets the condition. -/
theorem door_met (os : Os) (args : Array Value) : laidMetH Tryz.prog eleven ((World.doorLaid Tryz.prog 210 os).forCall (fun _ _ => 0) ⟨#[], args, []⟩).memory :=
  laidMetH_of_parts3 (fuel := 8) (laidMet_of_run' 8 (by kernel_rfl) (by kernel_rfl)) (by kernel_rfl) (by kernel_rfl)
end Go.Proofs.YtadipinnbehhhaaGreatDoor
