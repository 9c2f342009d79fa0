/- NodesReads: a room is quiet: on, no faults, never full. NodesReads: the law's up. NodesReads: the law's down. NodesReads: the law's room, under way. NodesReads: the law's walk. What every row of this seat asks: the listed variables opened; a law's row from a walk that leaves all that was there as it was. What the rows of this seat share: numbers opened; the witness: the heap that the program's start leaves. NodesReads: the law's input, opened. -/
import Derived.Test.YtadipinnbehhhaaGreatDoorRows
import Derived.ProofKit
import Derived.LaidMore
import Derived.OpenShut
import Derived.LaidLaws
import Derived.Stop.Joined
import Derived.Stop.LaidErr
import Derived.Deep.Slices
import Derived.Test.YtadipinnbehhhaaGreatDoorAsksRowAP
import Derived.Test.YtadipinnbehhhaaGreatDoorAsksRowAD
namespace Go.Proofs.YtadipinnbehhhaaGreatDoor
open Go.RowKit

structure QuietD (D : DSt) : Prop where
  on : D.on = true
  faults : D.faults = 0
  full : D.full = 0
theorem mount_quiet (block blocks : Int) (fs : List (ByteArray × AFile)) : QuietD (mountD block blocks fs) := ⟨rfl, rfl, rfl⟩
theorem QuietD.readsN {D : DSt} (h : QuietD D) : ∀ n, QuietD (D.readsN n)
  | 0 => h
  | n + 1 => ⟨(h.readsN n).on, (h.readsN n).faults, (h.readsN n).full⟩
set_option maxRecDepth 100000 in
set_option maxHeartbeats 1000000 in
theorem counts_any (d : Nat) (D : DSt) (R : DRep) (F : Nat → Prop) (w : World) (h : DiskAt w F d D R) :
    Calls Tryz.prog 37 #[.pointer (some ⟨d, 0, none⟩)] w fun e w' => e = .returned (.agg #[.int .i64 D.calls, .int .i64 D.reads, .int .i64 D.appends, .int .i64 D.faults, .int .i64 D.full, .int .i64 D.used, .int .i64 D.most]) ∧ Keep Nil w w' := by
  obtain ⟨W, hW⟩ : ∃ W, W = w.alloc (.cells #[.int .i64 0, .int .i64 0, .int .i64 0, .int .i64 0, .int .i64 0, .int .i64 0, .int .i64 0] 94) := ⟨_, rfl⟩
  have kW : Keep Nil w W := by rw [hW]; exact (Keep.refl Nil w).alloc _
  have bW : Blk W w.heap.size 94 #[.int .i64 0, .int .i64 0, .int .i64 0, .int .i64 0, .int .i64 0, .int .i64 0, .int .i64 0] := by rw [hW]; exact Blk.new w _ _
  have hb := h.blk.keep kW (fun h => h)
  have c5 : W.cell? ⟨d, 5, none⟩ = some (.int .i64 D.calls) := hb.at_ 5
  have c6 : W.cell? ⟨d, 6, none⟩ = some (.int .i64 D.reads) := hb.at_ 6
  have c7 : W.cell? ⟨d, 7, none⟩ = some (.int .i64 D.appends) := hb.at_ 7
  have c8 : W.cell? ⟨d, 8, none⟩ = some (.int .i64 D.faults) := hb.at_ 8
  have c9 : W.cell? ⟨d, 9, none⟩ = some (.int .i64 D.full) := hb.at_ 9
  have c10 : W.cell? ⟨d, 10, none⟩ = some (.int .i64 D.used) := hb.at_ 10
  have c11 : W.cell? ⟨d, 11, none⟩ = some (.int .i64 D.most) := hb.at_ 11
  have z0 : W.cell? ⟨w.heap.size, 0, none⟩ = some (.int .i64 0) := bW.at_ 0
  have z1 : W.cell? ⟨w.heap.size, 1, none⟩ = some (.int .i64 0) := bW.at_ 1
  have z2 : W.cell? ⟨w.heap.size, 2, none⟩ = some (.int .i64 0) := bW.at_ 2
  have z3 : W.cell? ⟨w.heap.size, 3, none⟩ = some (.int .i64 0) := bW.at_ 3
  have z4 : W.cell? ⟨w.heap.size, 4, none⟩ = some (.int .i64 0) := bW.at_ 4
  have z5 : W.cell? ⟨w.heap.size, 5, none⟩ = some (.int .i64 0) := bW.at_ 5
  have z6 : W.cell? ⟨w.heap.size, 6, none⟩ = some (.int .i64 0) := bW.at_ 6
  have g0 := bW.fr 0
  have g1 := bW.fr 1
  have g2 := bW.fr 2
  have g3 := bW.fr 3
  have g4 := bW.fr 4
  have g5 := bW.fr 5
  have g6 := bW.fr 6
  have HBW := Hid.intro_ bW
  have KW := Hid.intro_ kW
  have hne : ¬ d = w.heap.size := by have := h.blk.lt; omega
  have hne2 : ¬ w.heap.size = d := by omega
  clear kW bW hb h
  go_enter Tryz.func37, Tryz.ntmps37
  go_upto_region 1 with (fail)
  rw [← hW]
  clear hW
  go_wp2_with fail
  generalize hX : ((((((W.setCell ⟨w.heap.size, 0, none⟩ (.int .i64 D.calls)).setCell ⟨w.heap.size, 1, none⟩ (.int .i64 D.reads)).setCell ⟨w.heap.size, 2, none⟩ (.int .i64 D.appends)).setCell ⟨w.heap.size, 3, none⟩ (.int .i64 D.faults)).setCell ⟨w.heap.size, 4, none⟩ (.int .i64 D.full)).setCell ⟨w.heap.size, 5, none⟩ (.int .i64 D.used)).setCell ⟨w.heap.size, 6, none⟩ (.int .i64 D.most) = X at *
  have hb1 : Blk _ w.heap.size 94 #[.int .i64 D.calls, .int .i64 0, .int .i64 0, .int .i64 0, .int .i64 0, .int .i64 0, .int .i64 0] := HBW.out.set_ 0 (.int .i64 D.calls)
  have hb2 : Blk _ w.heap.size 94 #[.int .i64 D.calls, .int .i64 D.reads, .int .i64 0, .int .i64 0, .int .i64 0, .int .i64 0, .int .i64 0] := hb1.set_ 1 (.int .i64 D.reads)
  have hb3 : Blk _ w.heap.size 94 #[.int .i64 D.calls, .int .i64 D.reads, .int .i64 D.appends, .int .i64 0, .int .i64 0, .int .i64 0, .int .i64 0] := hb2.set_ 2 (.int .i64 D.appends)
  have hb4 : Blk _ w.heap.size 94 #[.int .i64 D.calls, .int .i64 D.reads, .int .i64 D.appends, .int .i64 D.faults, .int .i64 0, .int .i64 0, .int .i64 0] := hb3.set_ 3 (.int .i64 D.faults)
  have hb5 : Blk _ w.heap.size 94 #[.int .i64 D.calls, .int .i64 D.reads, .int .i64 D.appends, .int .i64 D.faults, .int .i64 D.full, .int .i64 0, .int .i64 0] := hb4.set_ 4 (.int .i64 D.full)
  have hb6 : Blk _ w.heap.size 94 #[.int .i64 D.calls, .int .i64 D.reads, .int .i64 D.appends, .int .i64 D.faults, .int .i64 D.full, .int .i64 D.used, .int .i64 0] := hb5.set_ 5 (.int .i64 D.used)
  have hb7 : Blk _ w.heap.size 94 #[.int .i64 D.calls, .int .i64 D.reads, .int .i64 D.appends, .int .i64 D.faults, .int .i64 D.full, .int .i64 D.used, .int .i64 D.most] := hb6.set_ 6 (.int .i64 D.most)
  rw [hX] at hb7
  have y0 : X.cell? ⟨w.heap.size, 0, none⟩ = some (.int .i64 D.calls) := hb7.at_ 0
  have y1 : X.cell? ⟨w.heap.size, 1, none⟩ = some (.int .i64 D.reads) := hb7.at_ 1
  have y2 : X.cell? ⟨w.heap.size, 2, none⟩ = some (.int .i64 D.appends) := hb7.at_ 2
  have y3 : X.cell? ⟨w.heap.size, 3, none⟩ = some (.int .i64 D.faults) := hb7.at_ 3
  have y4 : X.cell? ⟨w.heap.size, 4, none⟩ = some (.int .i64 D.full) := hb7.at_ 4
  have y5 : X.cell? ⟨w.heap.size, 5, none⟩ = some (.int .i64 D.used) := hb7.at_ 5
  have y6 : X.cell? ⟨w.heap.size, 6, none⟩ = some (.int .i64 D.most) := hb7.at_ 6
  have kX : Keep (fun z => z = w.heap.size) W X := by
    rw [← hX]
    exact (((((((Keep.refl (fun z => z = w.heap.size) W).setCell (p := ⟨w.heap.size, 0, none⟩) (fun _ => rfl) _).setCell (p := ⟨w.heap.size, 1, none⟩) (fun _ => rfl) _).setCell (p := ⟨w.heap.size, 2, none⟩) (fun _ => rfl) _).setCell (p := ⟨w.heap.size, 3, none⟩) (fun _ => rfl) _).setCell (p := ⟨w.heap.size, 4, none⟩) (fun _ => rfl) _).setCell (p := ⟨w.heap.size, 5, none⟩) (fun _ => rfl) _).setCell (p := ⟨w.heap.size, 6, none⟩) (fun _ => rfl) _
  refine bodyPost_ret (v := .agg #[.int .i64 D.calls, .int .i64 D.reads, .int .i64 D.appends, .int .i64 D.faults, .int .i64 D.full, .int .i64 D.used, .int .i64 D.most]) (by simp [results, Tryz.results37, go_sem, y0, y1, y2, y3, y4, y5, y6]) rfl ⟨rfl, KW.out.trans kX (fun z hz e => by have e : z = w.heap.size := e; omega)⟩
set_option maxRecDepth 100000 in
set_option maxHeartbeats 1000000 in
/-- A room that is quiet. -/
theorem quiet_rm {c : Cx} {w : World} {G : Nat → Prop} {s : RSt} {v : Value} (h : RmAt c w G s) (hq : QuietD s.D) :
    Calls Tryz.prog 32 #[.agg #[.pointer (some ⟨c.d, 0, none⟩), .pointer (some ⟨c.p, 0, none⟩), .pointer (some ⟨c.k, 0, none⟩), .int .i64 c.block, v]] w fun e w' => e = .returned (.bool true) ∧ Keep Nil w w' := by
  obtain ⟨F, rfl, hd⟩ := h.out
  obtain ⟨R, hD⟩ := hd.disk
  have kB := (Keep.refl Nil w).alloc (.cells #[.pointer (some ⟨c.d, 0, none⟩), .pointer (some ⟨c.p, 0, none⟩), .pointer (some ⟨c.k, 0, none⟩), .int .i64 c.block, v] 35)
  have hdlt := hD.blk.lt
  have h0 : ∀ W, Keep Nil w W → W.cell? ⟨c.d, 0, none⟩ = some (.bool true) := fun W k => by
    have := (hD.blk.keep k (fun h => h)).at_ 0
    rw [← hq.on]
    exact this
  have hcnt : ∀ W, Keep Nil w W → Calls Tryz.prog 37 #[.pointer (some ⟨c.d, 0, none⟩)] W fun e w' => e = .returned (.agg #[.int .i64 s.D.calls, .int .i64 s.D.reads, .int .i64 s.D.appends, .int .i64 0, .int .i64 0, .int .i64 s.D.used, .int .i64 s.D.most]) ∧ Keep Nil W w' := fun W k => by
    have := counts_any c.d s.D R F W (hD.nil k)
    rw [hq.faults, hq.full] at this
    exact this
  have hon : ∀ W, Keep Nil w W → Calls Tryz.prog 86 #[.pointer (some ⟨c.d, 0, none⟩)] W fun e w' => e = .returned (.bool true) ∧ w' = W := fun W k => by
    have := on_any c.d s.D R F W (hD.nil k)
    rw [hq.on] at this
    exact this
  have HCN := Hid.intro_ hcnt
  have HON := Hid.intro_ hon
  have bR := Blk.new w 35 #[.pointer (some ⟨c.d, 0, none⟩), .pointer (some ⟨c.p, 0, none⟩), .pointer (some ⟨c.k, 0, none⟩), .int .i64 c.block, v]
  have HBR := Hid.intro_ bR
  have KB := Hid.intro_ kB
  clear h hd hD hq h0 hcnt hon kB bR hdlt
  go_enter Tryz.func32, Tryz.ntmps32
  go_wp2_with fail
  refine (HCN.out _ KB.out).mono ?_
  rintro e w1 ⟨rfl, k1⟩
  have b1 := HBR.out.keep k1 (fun h => h)
  have r0 : w1.cell? ⟨w.heap.size, 0, none⟩ = some (.pointer (some ⟨c.d, 0, none⟩)) := b1.at_ 0
  have e0 := World.new_ne w1 _ r0
  simp only at e0
  have hlt := b1.lt
  have K1 := Hid.intro_ (KB.out.then_ k1)
  clear k1 b1
  go_wp2_with (first | (go_at_call 86; refine (HON.out _ (K1.out.alloc _)).mono ?_; rintro e w2 ⟨rfl, hw2⟩; obtain rfl := hw2.symm) | fail)
  go_ret
  exact ⟨rfl, K1.out.alloc _⟩
end Go.Proofs.YtadipinnbehhhaaGreatDoor
namespace Go.Proofs.YtadipinnbehhhaaGreatDoor
open Go.RowKit

end Go.Proofs.YtadipinnbehhhaaGreatDoor
namespace Go.Proofs.YtadipinnbehhhaaGreatDoor
open Go.RowKit

end Go.Proofs.YtadipinnbehhhaaGreatDoor
namespace Go.Proofs.YtadipinnbehhhaaGreatDoor
open Go.RowKit

/-- What holds of the room as it was opened. -/
structure RdG (c : Cx) (how : Int) (L : List R4) (s0 : RSt) : Prop where
  calm : Calm s0.D c.block (rdFs (rdFile how L c.block) c.block)
  S : s0.S = PSt.new (rdLim how L c.K)
  oks : ∀ r ∈ L, r.Ok
  len : L.length ≤ 268435456
  quiet : QuietD s0.D
  fit : fit c.block = c.K
  pos : 0 < c.K
def rdN2 (how : Int) (L : List R4) : Int := if rdErr how L = 0 then ansN (openedL L) else rdErr how L
section
variable {c : Cx} {w w' Y : World} {G0 : Nat → Prop} {s0 : RSt} {how : Int} {L : List R4} {v r m cb : Nat} {up bad : Bool} {l : List N3}

theorem rdS_facts (P : RdG c how L s0) : s0.S.closed = false ∧ s0.S.hand = 0 ∧ s0.S.parts = 0 ∧ s0.S.limit = rdLim how L c.K := by
  rw [P.S]
  exact ⟨rfl, rfl, rfl, rfl⟩
/-- Why a cursor is refused. -/
theorem refused (P : RdG c how L s0) (hz : ¬ rdN2 how L = 0) {s : RSt} {j : Nat} (h2 : Went j 0 s0 s) :
    (∃ o, LookAns c s (rdName how) o (rdN2 how L)) ∨ (rdName how = nmF ∧ rdN2 how L = 72 ∧ TapeOn c (rdFs (rdFile how L c.block) c.block) nmF 2 L ∧ Calm s.D c.block (rdFs (rdFile how L c.block) c.block) ∧ s.S.closed = false ∧ 0 ≤ s.S.hand ∧ (c.K : Int) ≤ s.S.limit - (s.S.hand + s.S.parts) ∧ ∃ v r m, endL L = some (v, r, m) ∧ ¬ L.length = m + 1) := by
  have hlk := (rd_look P.calm P.S P.oks P.len).went h2 P.calm
  by_cases ee : rdErr how L = 0
  · obtain ⟨en, ht⟩ := rd_tape (c := c) ee P.oks P.len
    have e1 : rdN how L = ansN (endL L) := if_pos ee
    have e2 : rdN2 how L = ansN (openedL L) := if_pos ee
    have eo : rdO how L = endL L := if_pos ee
    cases he : endL L with
    | none =>
      have : openedL L = none := by unfold openedL; rw [he]
      refine .inl ⟨none, ?_⟩
      rw [e1, eo, he] at hlk
      rw [e2, this]
      exact hlk
    | some p =>
      obtain ⟨v, r, m⟩ := p
      by_cases hn : L.length = m + 1
      · exfalso
        have : openedL L = some (v, r, m) := by unfold openedL; rw [he]; simp only; rw [if_pos hn]
        rw [e2, this] at hz
        exact hz rfl
      · have : openedL L = none := by unfold openedL; rw [he]; simp only; rw [if_neg hn]
        obtain ⟨f1, f2, f3, f4⟩ := rdS_facts P
        have el : rdLim how L c.K = c.K := by unfold rdLim; rw [ee]; rfl
        refine .inr ⟨en, by rw [e2, this]; rfl, ht, h2.calm P.calm, by rw [h2.closed, f1], by rw [h2.hand, f2]; decide, by rw [h2.hand, h2.limit, h2.parts, f2, f3, f4, el]; omega, v, r, m, rfl, hn⟩
  · refine .inl ⟨rdO how L, ?_⟩
    have e1 : rdN how L = rdErr how L := if_neg ee
    have e2 : rdN2 how L = rdErr how L := if_neg ee
    rw [e2, ← e1]
    exact hlk
end

end Go.Proofs.YtadipinnbehhhaaGreatDoor
namespace Go.Proofs.YtadipinnbehhhaaGreatDoor
open Go.RowKit

end Go.Proofs.YtadipinnbehhhaaGreatDoor
namespace Go.Proofs.YtadipinnbehhhaaGreatDoor
open Go.ChangeShapes Go.WideShapes Go.ChangeAt Go.WideMaps Go.WideElems Go.RowKit

theorem kOwn : ownKnob Tryz.prog.godebug = none := by kernel_rfl
theorem kOut : laidOutB Tryz.prog = true := by kernel_rfl
theorem kStar : "*" ++ "errors.errorString" = "*errors.errorString" := by decide
/-- That type's name has one row. -/
theorem kRow (u : TypeId) (h : Tryz.prog.typeName? 3 u = some "*errors.errorString") : u = 421 :=
  typeName_ptr_named (nm := "errors.errorString") (by rw [kStar]; kernel_rfl) (by kernel_rfl) (by decide) u (by rw [kStar]; exact h)
theorem kCellE : Tryz.prog.cellsOf 444 = 1 := by kernel_rfl
theorem kCellS : Tryz.prog.cellsOf 9 = 1 := by kernel_rfl
/-- Listed errors: the variable, its text. -/
def errList (l : List (String × List UInt8 × Nat)) : List (String × DataW Unit) := l.map fun x => (x.1, .iface "*errors.errorString" (.ptr (.agg [.lit (.string x.2.1)])))
set_option maxRecDepth 100000 in
theorem errs_of {W : World} : ∀ (l : List (String × List UInt8 × Nat)) (ps : List MemPlace),
    (∀ x ∈ l, Tryz.prog.globalNamed x.1 = some x.2.2 ∧ (Tryz.prog.globals[x.2.2]?).map (·.type) = some 295) → DataW.LaidVars Tryz.prog W (errList l) ps →
    (∀ b off, MemPlace.cell b off ∈ ps → (∃ c t, W.heap[b]? = some (.cells c t (0, 0))) ∧ ∀ u v, W.cell? ⟨b, off, none⟩ = some (.iface u v) → Value.okWide Tryz.prog W .any 0 u v) →
    ∃ bs : List Addr, bs.length = l.length ∧ (∀ (k : Nat) x a, l[k]? = some x → bs[k]? = some a → W.cell? ⟨x.2.2, 0, none⟩ = some (.iface 421 (.pointer (some a)))) ∧ (bs.map fun a => MemPlace.cell a.block a.off).Sublist ps
  | [], ps, _, _, _ => ⟨[], rfl, fun k x a h => by simp at h, List.nil_sublist _⟩
  | x :: l, ps, hg, h, hrows => by
    obtain ⟨g0, t0, cs0, f0, p0, q0, hg0, ht0, hv0, hd0, hr, e0⟩ := h
    obtain ⟨e1, e2⟩ := hg x (List.mem_cons_self ..)
    obtain rfl := Option.some.inj (e1.symm.trans hg0)
    obtain rfl := Option.some.inj (e2.symm.trans ht0)
    subst e0
    obtain ⟨l0⟩ := cs0
    have ok0 : ∀ u v, l0 = [.iface u v] → Value.okWide Tryz.prog W .any 0 u v := fun u v e => by
      subst e
      exact (hrows x.2.2 0 (by simp [MemPlace.row])).2 u v (by simpa using World.var?_cell hg0 hv0 0)
    obtain ⟨a0, s0, rfl, hc0, hs0, hz0, rfl⟩ := errorString_of_trod Tryz.underlying295 kRow Tryz.underlying421 Tryz.underlying444 rfl rfl Tryz.underlying9 kCellE kCellS hd0 ok0
    obtain ⟨bs, h1, h2, h3⟩ := errs_of l q0 (fun y hy => hg y (List.mem_cons_of_mem _ hy)) hr (fun b off hb => hrows b off (List.mem_append_right _ hb))
    refine ⟨a0 :: bs, by simp [h1], fun k y a hy ha => ?_, ?_⟩
    · match k with
      | 0 =>
        simp only [List.getElem?_cons_zero, Option.some.injEq] at hy ha
        subst hy ha
        simpa using World.var?_cell hg0 hv0 0
      | k + 1 => exact h2 k y a (by simpa using hy) (by simpa using ha)
    · rw [List.map_cons]
      refine (List.Sublist.append (l₁ := [_]) ?_ h3)
      rw [List.singleton_sublist]
      simp [MemPlace.row]
/-- A listed row of numbers. -/
theorem nums_of {W : World} {t e : TypeId} {n fuel : Nat} {k : IntKind} {cs : Array Value} {ns : List Int} {p : List MemPlace} (ht : Tryz.prog.underlying t = some (.array n e)) (he : Tryz.prog.underlying e = some (.int k)) (hc : Tryz.prog.cellsOf e = 1)
    (h : DataW.trod (fun _ => ()) Tryz.prog W 0 (fun _ => true) false fuel t cs.toList = some (.agg (ns.map fun x => .lit (.int k x)), p)) (i : Nat) (x : Int) (hx : ns[i]? = some x) : cs[i]? = some (.int k x) := by
  obtain ⟨xs, m, _, e1, _, hl, hat⟩ := DataW.trod_array ht h
  simp only [Prod.mk.injEq, DataW.agg.injEq] at e1
  have hlen := congrArg List.length e1.1
  simp only [List.length_map] at hlen
  have hi := (List.getElem?_eq_some_iff.1 hx).1
  have h1 := hat i (by omega)
  rw [hc, Nat.mul_one] at h1
  have h2 : xs[i]? = some (xs[i]'(by omega)) := List.getElem?_eq_getElem (by omega)
  rw [h2] at h1
  obtain ⟨y, hy1, hy2, _⟩ := DataW.trod_int he h1
  have h3 : (ns.map fun x => (DataW.lit (.int k x) : DataW Unit))[i]? = some (.lit (.int k x)) := by rw [List.getElem?_map, hx]; rfl
  rw [e1.1, List.getElem?_map, h2, hy2] at h3
  simp only [Option.map_some, Option.some.injEq, DataW.lit.injEq, Lit.int.injEq] at h3
  rw [h3.2] at hy1
  have h4 : (cs.toList.drop i)[0]? = some (.int k x) := by
    have := congrArg (·[0]?) hy1
    simpa [List.getElem?_take] using this
  rw [List.getElem?_drop] at h4
  simpa using h4
theorem kgH : Tryz.prog.globalNamed "strata/recs.halves" = some 11 := by kernel_rfl
theorem kgM : Tryz.prog.globalNamed "strata/recs.magic" = some 9 := by kernel_rfl
theorem ktH : (Tryz.prog.globals[11]?).map (·.type) = some 406 := by kernel_rfl
theorem ktM : (Tryz.prog.globals[9]?).map (·.type) = some 383 := by kernel_rfl
theorem kc32 : Tryz.prog.cellsOf 236 = 1 := by kernel_rfl
theorem kc8 : Tryz.prog.cellsOf 5 = 1 := by kernel_rfl
def nine : List (String × List UInt8 × Nat) :=
  [("strata/disk.errOff", [116, 104, 101, 32, 112, 111, 119, 101, 114, 32, 105, 115, 32, 111, 102, 102], 0), ("strata/disk.errName", [110, 111, 32, 110, 97, 109, 101], 1),
   ("strata/disk.errNoFile", [110, 111, 32, 115, 117, 99, 104, 32, 102, 105, 108, 101], 5), ("strata/disk.errExists", [116, 104, 101, 114, 101, 32, 105, 115, 32, 115, 117, 99, 104, 32, 97, 32, 102, 105, 108, 101], 2),
   ("strata/disk.errSealed", [115, 101, 97, 108, 101, 100], 4), ("strata/disk.errOpen", [110, 111, 116, 32, 115, 101, 97, 108, 101, 100], 6),
   ("strata/disk.errBlock", [110, 111, 32, 115, 117, 99, 104, 32, 98, 108, 111, 99, 107], 7), ("strata/disk.errFull", [110, 111, 32, 98, 108, 111, 99, 107, 32, 105, 115, 32, 102, 114, 101, 101], 8),
   ("strata/disk.errFault", [97, 32, 102, 97, 117, 108, 116], 3)]
theorem kNine : ∀ x ∈ nine, Tryz.prog.globalNamed x.1 = some x.2.2 ∧ (Tryz.prog.globals[x.2.2]?).map (·.type) = some 295 := by
  intro x hx
  simp only [nine, List.mem_cons, List.not_mem_nil, or_false] at hx
  rcases hx with rfl | rfl | rfl | rfl | rfl | rfl | rfl | rfl | rfl <;> exact ⟨by kernel_rfl, by kernel_rfl⟩
theorem nine_var : ∀ k, k < 9 → ∃ x, nine[k]? = some x ∧ x.2.2 = errVar k := by
  intro k hk
  match k with
  | 0 => exact ⟨_, rfl, rfl⟩
  | 1 => exact ⟨_, rfl, rfl⟩
  | 2 => exact ⟨_, rfl, rfl⟩
  | 3 => exact ⟨_, rfl, rfl⟩
  | 4 => exact ⟨_, rfl, rfl⟩
  | 5 => exact ⟨_, rfl, rfl⟩
  | 6 => exact ⟨_, rfl, rfl⟩
  | 7 => exact ⟨_, rfl, rfl⟩
  | 8 => exact ⟨_, rfl, rfl⟩
/-- The two tables and the nine errors, as they are listed. -/
def eleven : List (String × DataW Unit) := ("strata/recs.halves", Go.Proofs.YtadipinnbehhhaaGreatDoor.Rows.laid_strata_recs_halves) :: ("strata/recs.magic", Go.Proofs.YtadipinnbehhhaaGreatDoor.Rows.laid_strata_recs_magic) :: errList nine
theorem half_list : ∀ i, i < 16 → ([0, 498536548, 997073096, 651767980, 1994146192, 1802195444, 1303535960, 1342533948, 3988292384, 4027552580, 3604390888, 3412177804, 2607071920, 2262029012, 2685067896, 3183342108] : List Int)[i]? = some (half i : Int) := by decide +kernel
/-- What the listed variables give a walk. -/
theorem laid_gives {W : World} (h : laidMet Tryz.prog eleven W) : ∃ E, ErrsAt W E ∧ HalvesAt W ∧ MagicAt W := by
  obtain ⟨ps, ⟨g0, t0, cs0, f0, p0, q0, hg0, ht0, hv0, hd0, ⟨g1, t1, cs1, f1, p1, q1, hg1, ht1, hv1, hd1, hr, e1⟩, e0⟩, hnd, hrows⟩ := h
  obtain rfl := Option.some.inj (kgH.symm.trans hg0)
  obtain rfl := Option.some.inj (kgM.symm.trans hg1)
  obtain rfl := Option.some.inj (ktH.symm.trans ht0)
  obtain rfl := Option.some.inj (ktM.symm.trans ht1)
  have hq : ∀ x, x ∈ q1 → x ∈ ps := fun x hx => by rw [e0, e1]; exact List.mem_append_right _ (List.mem_append_right _ hx)
  have hsub : q1.Sublist ps := by rw [e0, e1]; exact (List.sublist_append_right _ _).trans (List.sublist_append_right _ _)
  obtain ⟨bs, h1, h2, h3⟩ := errs_of nine q1 kNine hr (fun b off hb => hrows b off (hq _ hb))
  have h9 : bs.length = 9 := h1
  have hnd2 : (bs.map fun a => MemPlace.cell a.block a.off).Nodup := (hnd.sublist hsub).sublist h3
  have hat : ∀ k, k < 9 → bs[k]? = some (bs.getD k ⟨0, 0, none⟩) := fun k hk => by
    rw [List.getD_eq_getElem?_getD, List.getElem?_eq_getElem (by omega)]
    rfl
  have hplace : ∀ k, k < 9 → MemPlace.cell (bs.getD k ⟨0, 0, none⟩).block (bs.getD k ⟨0, 0, none⟩).off ∈ ps := fun k hk => by
    refine hq _ (h3.mem ?_)
    exact List.mem_map.2 ⟨_, List.mem_of_getElem? (hat k hk), rfl⟩
  have hvar : ∀ k, k < 9 → W.cell? ⟨errVar k, 0, none⟩ = some (.iface 421 (.pointer (some (bs.getD k ⟨0, 0, none⟩)))) := fun k hk => by
    obtain ⟨x, hx, e⟩ := nine_var k hk
    rw [← e]
    exact h2 k x _ hx (hat k hk)
  refine ⟨fun k => bs.getD k ⟨0, 0, none⟩, ⟨hvar, fun k hk => cell_lt (hvar k hk), fun k hk => (hrows _ _ (hplace k hk)).1, fun j k hj hk hne e => ?_⟩, fun i hi => ?_, fun i x hx => ?_⟩
  · have a1 : (bs.map fun a => MemPlace.cell a.block a.off)[j]? = some (.cell (bs.getD j ⟨0, 0, none⟩).block (bs.getD j ⟨0, 0, none⟩).off) := by rw [List.getElem?_map, hat j hj]; rfl
    have a2 : (bs.map fun a => MemPlace.cell a.block a.off)[k]? = some (.cell (bs.getD j ⟨0, 0, none⟩).block (bs.getD j ⟨0, 0, none⟩).off) := by rw [List.getElem?_map, hat k hk, show bs.getD j ⟨0, 0, none⟩ = bs.getD k ⟨0, 0, none⟩ from e]; rfl
    exact hne (nodup_eq hnd2 a1 a2)
  · rw [World.var?_cell hg0 hv0 i]
    exact nums_of (ns := [0, 498536548, 997073096, 651767980, 1994146192, 1802195444, 1303535960, 1342533948, 3988292384, 4027552580, 3604390888, 3412177804, 2607071920, 2262029012, 2685067896, 3183342108]) Tryz.underlying406 Tryz.underlying236 kc32 hd0 i _ (half_list i hi)
  · rw [World.var?_cell hg1 hv1 i]
    exact nums_of (ns := [83, 84, 82, 65]) Tryz.underlying383 Tryz.underlying5 kc8 hd1 i x hx
/-- Data read as they did, where what they lie in is as it was. -/
theorem trodAll_stays {H : Type} {enc : TypeId × Value → H} {P : Program} (hl : laidOutB P = true) {W W' : World} {sp : Nat → Bool} : ∀ (ts : List TypeId) {vs : List Value} {ds : List (DataW H)} {ps : List MemPlace}, (∀ t ∈ ts, P.readableRec t = true ∧ t < P.types.size) →
    DataW.TrodAll enc P W 0 (fun _ => true) true ts vs ds ps → (∀ p ∈ ps, W.sameAt W' p) → (∀ p ∈ ps, sp p.block = true) → DataW.TrodAll enc P W' 0 sp true ts vs ds ps
  | [], vs, ds, ps, _, h, _, _ => by
    obtain ⟨rfl, rfl, rfl⟩ := trodAll_nil h
    exact h
  | t :: ts, vs, ds, ps, hr, h, hs, hp => by
    obtain ⟨v, vs', d, ds', p, q, rfl, rfl, rfl, hd, hrest⟩ := trodAll_cons h
    obtain ⟨h1, h2⟩ := hr t (List.mem_cons_self ..)
    exact ⟨p, q, Trod_stays hl h1 h2 hd (fun x hx => hs x (List.mem_append_left _ hx)) (fun x hx => hp x (List.mem_append_left _ hx)), trodAll_stays hl ts (fun t ht => hr t (List.mem_cons_of_mem _ ht)) hrest (fun x hx => hs x (List.mem_append_right _ hx)) (fun x hx => hp x (List.mem_append_right _ hx)), rfl⟩
/-- A law's row, from a walk that leaves all that was there as it was. -/
theorem law_post {H : Type} {enc : TypeId × Value → H} {f : Func} {s : ChangeSpec} {W W' : World} {args : Array Value} {ds : List (DataW H)} {before : List MemPlace} (hW : DataW.Whole enc Tryz.prog f.params.toList s.vars false W args.toList ds [] before) (hv : s.vars = [])
    (hA : DataW.TrodAll enc Tryz.prog W 0 (fun _ => true) true f.params.toList args.toList ds before) (hfn : s.fn H (ds ++ []) = { results := [.lit (.bool true)], args := ds }) (hr : ∀ t ∈ f.params.toList, Tryz.prog.readableRec t = true ∧ t < Tryz.prog.types.size) (hrt : f.resultTypes = #[4]) (k : Keep Nil W W') :
    s.post enc Tryz.prog f false true false false W args (.bool true) W' := by
  have hb : Below W.heap.size W W' := k.below (fun _ _ _ h => h) (Nat.le_refl _)
  have hlt : ∀ p ∈ before, p.block < W.heap.size := fun p hp => hW.lt p hp
  refine ⟨ds, [], before, [], before, [], hW, ?_, ?_, ?_, World.keptBut_mono (fun p hp => ⟨hp, .inr (by simpa using hp)⟩) (hb.frame (· ∈ before)), fun h => by cases h⟩
  · rw [hfn, hrt]
    exact trodAll_mk1 (shut_bool Tryz.underlying4 true)
  · rw [hfn]
    exact trodAll_stays kOut _ hr hA (fun p hp => hb.same (hlt p hp)) (fun p hp => by simpa using hlt p hp)
  · rw [hv, hfn]
    rfl
end Go.Proofs.YtadipinnbehhhaaGreatDoor
namespace Go.Proofs.YtadipinnbehhhaaGreatDoor
open Go.ChangeShapes Go.WideShapes Go.ChangeAt Go.WideMaps Go.WideElems Go.RowKit Go.Deep

/-- One number's bounds. -/
theorem wf_range {k : IntKind} {n : Int} (h : (Lit.int k n).wf = true) : k.min ≤ n ∧ n ≤ k.max := by simpa [Lit.wf] using h
/-- The door's own heap meets the condition. -/
theorem door_met (os : Os) (args : Array Value) : laidMetH Tryz.prog eleven ((World.doorLaid Tryz.prog 210 os).forCall (fun _ _ => 0) ⟨#[], args, []⟩).memory :=
  laidMetH_of_parts3 (fuel := 8) (laidMet_of_run' 8 (by kernel_rfl) (by kernel_rfl)) (by kernel_rfl) (by kernel_rfl)
end Go.Proofs.YtadipinnbehhhaaGreatDoor
namespace Go.Proofs.YtadipinnbehhhaaGreatDoor
open Go.ChangeShapes Go.WideShapes Go.ChangeAt Go.WideMaps Go.WideElems Go.RowKit Go.Deep

theorem arr_num {H : Type} {W : World} {sp : Nat → Bool} {hd : Bool} {t : TypeId} {k : IntKind} {n : Nat} {cs : List Value} {x : DataW H × List MemPlace} {enc : TypeId × Value → H} {o : Nat} (ht : Tryz.prog.underlying t = some (.int k)) (h : DataW.trod enc Tryz.prog W 0 sp hd n t ((cs.drop o).take 1) = some x) :
    ∃ y, cs[o]? = some (.int k y) ∧ k.min ≤ y ∧ y ≤ k.max := by
  obtain ⟨y, h1, _, h3⟩ := DataW.trod_int ht h
  refine ⟨y, ?_, wf_range h3⟩
  have := congrArg (·[0]?) h1
  simp only [List.getElem?_take, List.getElem?_drop] at this
  simpa using this
theorem rec_of {H : Type} {enc : TypeId × Value → H} {W : World} {sp : Nat → Bool} {hd : Bool} {a : Addr} {n : Nat} {cs : List Value} {x : DataW H × List MemPlace} (hc : W.cells? 0 a 4 = some cs) (ht : DataW.trod enc Tryz.prog W 0 sp hd n 111 cs = some x) :
    ∃ q : R4, (∀ (j : Nat) (u : Value), (rcCells [q])[j]? = some u → W.cell? (a.add j) = some u) ∧ q.Ok := by
  have kc : Tryz.prog.cellsOf 43 = 1 := by kernel_rfl
  obtain ⟨xs, m, _, _, _, hl, hat2⟩ := DataW.trod_array Tryz.underlying111 ht
  obtain ⟨_, hcl, hat⟩ := World.cells?_some hc
  simp only [kc, Nat.mul_one] at hat2
  have get : ∀ i, i < 4 → ∃ y : Nat, cs[i]? = some (.int .u64 y) ∧ y < 18446744073709551616 := fun i hi => by
    have h0 := hat2 i (by omega)
    rw [List.getElem?_eq_getElem (show i < xs.length by omega)] at h0
    obtain ⟨y, h1, h2, h3⟩ := arr_num Tryz.underlying43 h0
    have h2 : 0 ≤ y := h2
    have h3 : y ≤ 18446744073709551615 := h3
    refine ⟨y.toNat, ?_, by omega⟩
    rw [h1, show ((y.toNat : Nat) : Int) = y by omega]
  obtain ⟨x0, e0, l0⟩ := get 0 (by omega)
  obtain ⟨x1, e1, l1⟩ := get 1 (by omega)
  obtain ⟨x2, e2, l2⟩ := get 2 (by omega)
  obtain ⟨x3, e3, l3⟩ := get 3 (by omega)
  refine ⟨⟨x0, x1, x2, x3⟩, fun j u hu => ?_, ⟨l0, l1, l2, l3⟩⟩
  match j with
  | 0 => exact (hat 0 (by omega)).trans (e0.trans hu)
  | 1 => exact (hat 1 (by omega)).trans (e1.trans hu)
  | 2 => exact (hat 2 (by omega)).trans (e2.trans hu)
  | 3 => exact (hat 3 (by omega)).trans (e3.trans hu)
  | j + 4 => simp [rcCells, R4.ws] at hu
theorem recs_list {W : World} {a : Addr} : ∀ (len : Nat), (∀ i, i < len → ∃ q : R4, (∀ (j : Nat) (u : Value), (rcCells [q])[j]? = some u → W.cell? ((a.add (i * 4)).add j) = some u) ∧ q.Ok) →
    ∃ L : List R4, L.length = len ∧ (∀ q ∈ L, q.Ok) ∧ ∀ (j : Nat) (u : Value), (rcCells L)[j]? = some u → W.cell? (a.add j) = some u
  | 0, _ => ⟨[], rfl, fun q hq => by simp at hq, fun j u hu => by simp [rcCells] at hu⟩
  | len + 1, h => by
    obtain ⟨sc, h1, h2, h3⟩ := recs_list len (fun i hi => h i (by omega))
    obtain ⟨q, hq, hok⟩ := h len (by omega)
    refine ⟨sc ++ [q], by simp [h1], fun r hr => ?_, fun j u hu => ?_⟩
    · rcases List.mem_append.1 hr with hr | hr
      · exact h2 r hr
      · rw [List.mem_singleton.1 hr]; exact hok
    · rw [rcCells_app] at hu
      by_cases hj : j < (rcCells sc).length
      · rw [List.getElem?_append_left hj] at hu
        exact h3 j u hu
      · rw [List.getElem?_append_right (by omega)] at hu
        have := hq _ u hu
        rw [Addr.add_add] at this
        rw [rcCells_len, h1] at this hj
        rwa [show len * 4 + (j - 4 * len) = j by omega] at this
theorem rd_in {W : World} {A : Option Addr} {xs : List Value} (h : Rd W A xs) (hne : xs ≠ []) : ∀ a, A = some a → a.spot = none ∧ a.block < W.heap.size := by
  intro a e
  obtain ⟨g, o, e2⟩ := rd_at h hne
  rw [e] at e2
  injection e2 with e2
  subst e2
  obtain ⟨u, hu⟩ : ∃ u, xs[0]? = some u := ⟨_, List.getElem?_eq_getElem (List.length_pos_iff.2 hne)⟩
  obtain ⟨ad, e3, hc⟩ := h _ _ hu
  rw [e] at e3
  injection e3 with e3
  subst e3
  rw [add_at] at hc
  exact ⟨rfl, cell_lt hc⟩
set_option maxRecDepth 100000 in
/-- Records, opened. -/
theorem recs_of {H : Type} {enc : TypeId × Value → H} {W : World} {cs : List Value} {n : Nat} {x : DataW H × List MemPlace} (h : DataW.trod enc Tryz.prog W 0 (fun _ => true) true n 47 cs = some x) :
    ∃ (A : Option Addr) (cap : Nat) (L : List R4), cs = [.slice A L.length cap] ∧ Rd W A (rcCells L) ∧ (∀ q ∈ L, q.Ok) ∧ L.length ≤ cap := by
  rcases open_slice Tryz.underlying47 h with ⟨e, _⟩ | ⟨a, len, cap, m, n', D, Pl, e, _, hl, _, hm, _, hi⟩
  · exact ⟨none, 0, [], e, Rd.nil _ _, fun q hq => by simp at hq, Nat.le_refl _⟩
  · have kc4 : Tryz.prog.cellsOf 111 = 4 := by kernel_rfl
    obtain ⟨L, h1, h2, h3⟩ := recs_list (W := W) (a := a) len (fun i hil => by
      obtain ⟨cs', hc, ht⟩ := hi i (by rw [hm]; simp; omega)
      rw [kc4] at hc
      exact rec_of hc ht)
    exact ⟨some a, cap, L, by rw [h1]; exact e, fun j u hu => ⟨a, rfl, h3 j u hu⟩, h2, by omega⟩
set_option maxRecDepth 100000 in
/-- A case, opened. -/
theorem case_of {H : Type} {enc : TypeId × Value → H} {W : World} {v : Value} {d : DataW H} {p : List MemPlace} {base : Nat} (hv : Value.okWide Tryz.prog W .any base 67 v) (h : DataW.Trod enc Tryz.prog W 0 (fun _ => true) true 67 v d p) :
    ∃ (A : Option Addr) (cap : Nat) (L : List R4) (b : Int), v = .agg #[.slice A L.length cap, .int .i64 b] ∧ Rd W A (rcCells L) ∧ (∀ q ∈ L, q.Ok) ∧ L.length ≤ cap ∧ (-9223372036854775808 ≤ b ∧ b ≤ 9223372036854775807) := by
  have kc : Tryz.prog.cellsOf 67 = 2 := by kernel_rfl
  have kcs : Tryz.prog.cellsOf 47 = 1 := by kernel_rfl
  have kci : Tryz.prog.cellsOf 3 = 1 := by kernel_rfl
  obtain ⟨cs, rfl, hsz⟩ := okWide_struct Tryz.underlying67 hv
  rw [kc] at hsz
  obtain ⟨n, hn⟩ := h
  obtain ⟨y0, y1, m, _, _, h0, h1⟩ := trod_struct2 Tryz.underlying67 hn
  simp only [Value.cells, kcs, kci] at h0 h1
  obtain ⟨l⟩ := cs
  match l, hsz with
  | [u0, u1], _ =>
    obtain ⟨A, cap, L, e, hr, ho, hc⟩ := recs_of h0
    obtain ⟨b, e1, hb⟩ := arr_num (o := 1) Tryz.underlying3 h1
    have e2 : [u0] = [Value.slice A L.length cap] := e
    obtain rfl : u0 = Value.slice A L.length cap := (List.cons.inj e2).1
    obtain rfl : u1 = Value.int .i64 b := Option.some.inj e1
    exact ⟨A, cap, L, b, rfl, hr, ho, hc, hb⟩
end Go.Proofs.YtadipinnbehhhaaGreatDoor
