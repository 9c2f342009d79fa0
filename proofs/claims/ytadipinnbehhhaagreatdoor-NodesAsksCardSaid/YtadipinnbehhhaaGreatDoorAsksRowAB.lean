/- Disk: a call gets its number, and what befalls it. Disk: a numbered call: it is done, or a fault or a cut befalls it. Disk: a numbered call in one: what it answers, whatever befalls it. Disk: Create. Disk: Create, every way. Disk: one file turns, or goes. Disk: Create in one; Seal; Length; On, Block. Disk: Length; On, Block. Rows of one's own: make, copy and append as steps, and what they keep. Disk: Append: what it does to the file. Disk: Append, every way. Disk: Append in one. Disk: Delete. Numbers written into bytes. The reference's number: bytes put behind a row of one's own. The sum of bytes: bit by bit, and by half bytes. Plain arithmetic. Sum: the walk. -/
import Derived.BigRegion
import Derived.Deep.RegionWith
import Derived.OwnWalk
import Derived.Laws.CopyOwn
import Derived.Laws.OwnMore
import Derived.Deep.RegionLaw
import Derived.Maps.AppendAt
import Derived.Deep.Cut
import Derived.Deep.CutRange
import Derived.StillTailTactics
import Derived.Laws.BitsAllLaws
import Derived.Test.YtadipinnbehhhaaGreatDoorAsksRowAA
namespace Go.Proofs.YtadipinnbehhhaaGreatDoor
open Go.RowKit

def Tr.hits (t : Tr) (k : Int) : Bool := decide (t.at_ = k) && (decide (t.kind = 1) || decide (t.kind = 2))
/-- What befalls the next numbered call. -/
def DSt.hit (D : DSt) : Option Tr := D.trs.find? fun t => t.hits D.calls
def DSt.numbered (D : DSt) : DSt := { D with calls := wrap64 (D.calls + 1) }
def hitVal : Option Tr → Value
  | some t => .tuple #[.agg #[.int .i64 t.at_, .int .i64 t.kind, .int .i64 t.bytes], .bool true]
  | none => .tuple #[.agg #[.int .i64 0, .int .i64 0, .int .i64 0], .bool false]
theorem trCells_get : ∀ (l : List Tr) (k : Nat) (t : Tr), l[k]? = some t → (trCells l)[k * 3]? = some (.int .i64 t.at_) ∧ (trCells l)[k * 3 + 1]? = some (.int .i64 t.kind) ∧ (trCells l)[k * 3 + 2]? = some (.int .i64 t.bytes)
  | [], _, _, h => by simp at h
  | a :: l, 0, t, h => by
    simp only [List.getElem?_cons_zero, Option.some.injEq] at h
    subst h
    exact ⟨rfl, rfl, rfl⟩
  | a :: l, k + 1, t, h => by
    have ih := trCells_get l k t (by simpa using h)
    have e : trCells (a :: l) = .int .i64 a.at_ :: .int .i64 a.kind :: .int .i64 a.bytes :: trCells l := rfl
    rw [e]
    refine ⟨?_, ?_, ?_⟩
    · rw [show (k + 1) * 3 = k * 3 + 1 + 1 + 1 from by omega]; simpa using ih.1
    · rw [show (k + 1) * 3 + 1 = k * 3 + 1 + 1 + 1 + 1 from by omega]; simpa using ih.2.1
    · rw [show (k + 1) * 3 + 2 = k * 3 + 2 + 1 + 1 + 1 from by omega]; simpa using ih.2.2
theorem hit_none {l : List Tr} {c : Int} (h : ∀ (j : Nat) (t : Tr), l[j]? = some t → t.hits c = false) : l.find? (fun t => t.hits c) = none := by
  rw [List.find?_eq_none]
  intro t ht
  obtain ⟨j, hj⟩ := List.mem_iff_getElem?.1 ht
  simp [h j t hj]
theorem hit_some : ∀ {l : List Tr} {c : Int} {k : Nat} {t : Tr}, (∀ (j : Nat) (u : Tr), j < k → l[j]? = some u → u.hits c = false) → l[k]? = some t → t.hits c = true → l.find? (fun t => t.hits c) = some t
  | [], _, _, _, _, h, _ => by simp at h
  | a :: l, c, 0, t, _, h, ht => by
    simp only [List.getElem?_cons_zero, Option.some.injEq] at h
    subst h
    simp [ht]
  | a :: l, c, k + 1, t, hj, h, ht => by
    have h0 := hj 0 a (by omega) rfl
    simp only [List.find?_cons, h0]
    exact hit_some (k := k) (fun j u hlt hu => hj (j + 1) u (by omega) (by simpa using hu)) (by simpa using h) ht
set_option maxRecDepth 100000 in
set_option maxHeartbeats 1000000 in
theorem number_any (d : Nat) (D : DSt) (R : DRep) (F : Nat → Prop) (w : World) (h : DiskAt w F d D R) :
    Calls Tryz.prog 226 #[.pointer (some ⟨d, 0, none⟩)] w fun e w' => e = .returned (hitVal D.hit) ∧ DiskAt w' F d D.numbered R ∧ Keep (fun b => b = d) w w' := by
  have c5 : w.cell? ⟨d, 5, none⟩ = some (.int .i64 D.calls) := h.blk.at_ 5
  have f5 : w.frozen? ⟨d, 5, none⟩ = false := h.blk.fr 5
  have c4 : w.cell? ⟨d, 4, none⟩ = some (.slice (R.tb.map fun b => ⟨b, 0, none⟩) D.trs.length R.tc) := h.blk.at_ 4
  have hdl := h.blk.lt
  go_enter Tryz.func226, Tryz.ntmps226
  have hW : Keep (fun b => b = d) w ((w.setCell ⟨d, 5, none⟩ (.int .i64 (wrap64 (D.calls + 1)))).alloc (.cells #[.int .i64 0, .int .i64 0, .int .i64 0] 290)) := ((Keep.refl (fun b => b = d) w).setCell (p := ⟨d, 5, none⟩) (fun _ => rfl) _).alloc _
  have hres : Blk ((w.setCell ⟨d, 5, none⟩ (.int .i64 (wrap64 (D.calls + 1)))).alloc (.cells #[.int .i64 0, .int .i64 0, .int .i64 0] 290)) w.heap.size 290 #[.int .i64 0, .int .i64 0, .int .i64 0] := Blk.new_at _ _ _ (by simp [World.setCell])
  have hD1 : DiskAt ((w.setCell ⟨d, 5, none⟩ (.int .i64 (wrap64 (D.calls + 1)))).alloc (.cells #[.int .i64 0, .int .i64 0, .int .i64 0] 290)) F d D.numbered R := by
    refine DiskAt.turn (D' := D.numbered) h hW ?_ rfl rfl ?_
    · exact (Blk.set_ h.blk 5 _).alloc _
    · obtain ⟨a1, a2, a3, a4, a5, a6, a7, a8, a9, a10, a11⟩ := h.ok
      exact ⟨a1, a2, a3, a4, a5, a6, a7, a8, a9, a10, a11⟩
  have hlen : D.trs.length ≤ 9223372036854775807 := Nat.le_trans h.tcl (by have := h.tcm; simpa only [maxLen] using this)
  have htr := Hid.intro_ h.trs
  have hft := Hid.intro_ hD1.ftr
  go_wp2
  go_loopw [26] (fun n wr => ∃ k : Nat, k ≤ D.trs.length ∧ n = .int .i64 k ∧ Keep Nil ((w.setCell ⟨d, 5, none⟩ (.int .i64 (wrap64 (D.calls + 1)))).alloc (.cells #[.int .i64 0, .int .i64 0, .int .i64 0] 290)) wr ∧ Hid (∀ (j : Nat) (t : Tr), j < k → D.trs[j]? = some t → t.hits D.calls = false)) (fun n _ => D.trs.length - (intOf n).toNat)
  case atStart => exact ⟨0, Nat.zero_le _, rfl, Keep.refl _ _, fun j t hj => by omega⟩
  case round =>
    obtain ⟨k, hk, rfl, hkr, hno⟩ := hrel
    have hr := hres.keep hkr (fun h => h)
    have r0 : wr.cell? ⟨w.heap.size, 0, none⟩ = some (.int .i64 0) := hr.at_ 0
    have r1 : wr.cell? ⟨w.heap.size, 1, none⟩ = some (.int .i64 0) := hr.at_ 1
    have r2 : wr.cell? ⟨w.heap.size, 2, none⟩ = some (.int .i64 0) := hr.at_ 2
    have q0 : wr.frozen? ⟨w.heap.size, 0, none⟩ = false := hr.fr 0
    have q1 : wr.frozen? ⟨w.heap.size, 1, none⟩ = false := hr.fr 1
    have q2 : wr.frozen? ⟨w.heap.size, 2, none⟩ = false := hr.fr 2
    have hlt2 := hr.lt
    by_cases hlt : k < D.trs.length
    · obtain ⟨t, ht⟩ : ∃ t, D.trs[k]? = some t := ⟨_, List.getElem?_eq_getElem hlt⟩
      obtain ⟨g0, g1, g2⟩ := trCells_get D.trs k t ht
      obtain ⟨b, hb, x0⟩ := htr.out _ _ g0
      obtain ⟨b1, hb1, x1⟩ := htr.out _ _ g1
      obtain ⟨b2, hb2, x2⟩ := htr.out _ _ g2
      have hbb1 : b1 = b := by rw [hb] at hb1; injection hb1 with hb1; exact hb1.symm
      have hbb2 : b2 = b := by rw [hb] at hb2; injection hb2 with hb2; exact hb2.symm
      rw [hbb1] at x1
      rw [hbb2] at x2
      have hnd := h.trne b hb
      have y0 : wr.cell? ⟨b, k * 3, none⟩ = some (.int .i64 t.at_) := cell_keep (cell_keep x0 hW hnd) hkr (fun h => h)
      have y1 : wr.cell? ⟨b, k * 3 + 1, none⟩ = some (.int .i64 t.kind) := cell_keep (cell_keep x1 hW hnd) hkr (fun h => h)
      have y2 : wr.cell? ⟨b, k * 3 + 2, none⟩ = some (.int .i64 t.bytes) := cell_keep (cell_keep x2 hW hnd) hkr (fun h => h)
      have hTA : Option.map (fun b => (⟨b, 0, none⟩ : Addr)) R.tb = some ⟨b, 0, none⟩ := by rw [hb]; rfl
      clear hb hb1 hb2 hbb1 hbb2 x0 x1 x2 g0 g1 g2 hnd c4
      have HT := Hid.intro_ ht
      clear ht
      cases hh : t.hits D.calls
      · have HH := Hid.intro_ hh
        have hcase : ((t.at_ == D.calls) = false) ∨ ((t.at_ == D.calls) = true ∧ (t.kind == 1) = false ∧ (t.kind == 2) = false) := by
          simp only [Tr.hits, Bool.and_eq_false_iff, Bool.or_eq_false_iff, decide_eq_false_iff_not] at hh
          rcases hh with hh | ⟨ha, hb⟩
          · exact .inl (by simpa using hh)
          · by_cases hq : t.at_ = D.calls
            · exact .inr ⟨by simpa using hq, by simpa using ha, by simpa using hb⟩
            · exact .inl (by simpa using hq)
        clear hh
        rcases hcase with ha | ⟨ha, hb2, hb3⟩
        all_goals
          go_wp2
          go_roundw
          case rel => exact ⟨k + 1, by omega, by go_num, hkr.alloc _, fun j u hj hu => by
            by_cases hjk : j = k
            · subst hjk; have := HT.out; rw [hu] at this; injection this with this; rw [this]; exact HH.out
            · exact hno.out j u (by omega) hu⟩
          case measure => simp [intOf]; omega
      · have HH := Hid.intro_ hh
        have hcase : (t.at_ == D.calls) = true ∧ ((t.kind == 1) = true ∨ ((t.kind == 1) = false ∧ (t.kind == 2) = true)) := by
          simp only [Tr.hits, Bool.and_eq_true, Bool.or_eq_true, decide_eq_true_eq] at hh
          refine ⟨by simpa using hh.1, ?_⟩
          by_cases hq : t.kind = 1
          · exact .inl (by simpa using hq)
          · exact .inr ⟨by simpa using hq, by simpa using hh.2.resolve_left hq⟩
        clear hh
        have hfin : D.hit = some t := hit_some hno.out HT.out HH.out
        have HF := Hid.intro_ hfin
        clear hfin
        obtain ⟨ha, hb1 | ⟨hb1, hb2⟩⟩ := hcase
        all_goals
          go_wp2
          have hB3 := (Blk.set_ (Blk.set_ (Blk.set_ hr 0 (.int .i64 t.at_)) 1 (.int .i64 t.kind)) 2 (.int .i64 t.bytes)).alloc (.cells #[.int .i64 t.at_, .int .i64 t.kind, .int .i64 t.bytes] 290)
          have z0 := hB3.at_ 0
          have z1 := hB3.at_ 1
          have z2 := hB3.at_ 2
          refine bodyPost_ret (v := .tuple #[.agg #[.int .i64 t.at_, .int .i64 t.kind, .int .i64 t.bytes], .bool true]) (by simp [results, Tryz.results226, go_sem, z0, z1, z2]) rfl ⟨by rw [HF.out]; rfl, ?_, ?_⟩
          · exact (hD1.nil hkr).keep ((((Keep.refl (fun b => b = w.heap.size) wr).setCell (p := ⟨w.heap.size, 0, none⟩) (fun _ => rfl) _).setCell (p := ⟨w.heap.size, 1, none⟩) (fun _ => rfl) _).setCell (p := ⟨w.heap.size, 2, none⟩) (fun _ => rfl) _ |>.alloc _) (fun b hb e => by have := h.lt b hb; omega)
          · exact ((((hW.trans hkr (fun _ _ h => h.elim)).setCell (p := ⟨w.heap.size, 0, none⟩) (fun h => absurd h (Nat.lt_irrefl _)) _).setCell (p := ⟨w.heap.size, 1, none⟩) (fun h => absurd h (Nat.lt_irrefl _)) _).setCell (p := ⟨w.heap.size, 2, none⟩) (fun h => absurd h (Nat.lt_irrefl _)) _).alloc _
    · have hfin : D.hit = none := hit_none (fun j t hj => hno.out j t (by have := (List.getElem?_eq_some_iff.1 hj).1; omega) hj)
      have HF := Hid.intro_ hfin
      clear hfin
      go_wp2
      have hB3 := (Blk.set_ (Blk.set_ (Blk.set_ hr 0 (.int .i64 0)) 1 (.int .i64 0)) 2 (.int .i64 0))
      have z0 := hB3.at_ 0
      have z1 := hB3.at_ 1
      have z2 := hB3.at_ 2
      refine bodyPost_ret (v := .tuple #[.agg #[.int .i64 0, .int .i64 0, .int .i64 0], .bool false]) (by simp [results, Tryz.results226, go_sem, z0, z1, z2]) rfl ⟨by rw [HF.out]; rfl, ?_, ?_⟩
      · exact (hD1.nil hkr).keep ((((Keep.refl (fun b => b = w.heap.size) wr).setCell (p := ⟨w.heap.size, 0, none⟩) (fun _ => rfl) _).setCell (p := ⟨w.heap.size, 1, none⟩) (fun _ => rfl) _).setCell (p := ⟨w.heap.size, 2, none⟩) (fun _ => rfl) _) (fun b hb e => by have := h.lt b hb; omega)
      · exact (((hW.trans hkr (fun _ _ h => h.elim)).setCell (p := ⟨w.heap.size, 0, none⟩) (fun h => absurd h (Nat.lt_irrefl _)) _).setCell (p := ⟨w.heap.size, 1, none⟩) (fun h => absurd h (Nat.lt_irrefl _)) _).setCell (p := ⟨w.heap.size, 2, none⟩) (fun h => absurd h (Nat.lt_irrefl _)) _
end Go.Proofs.YtadipinnbehhhaaGreatDoor
namespace Go.Proofs.YtadipinnbehhhaaGreatDoor
open Go.RowKit

inductive Fate where
  | done
  | fault
  | cut (n : Int)
/-- What becomes of the next numbered call. -/
def DSt.fate (D : DSt) (fails : Bool) : Fate := match D.hit with
  | none => .done
  | some t => if t.kind = 1 then (if fails then .fault else .done) else .cut t.bytes
theorem hit_kind {D : DSt} {t : Tr} (h : D.hit = some t) : t.kind = 1 ∨ t.kind = 2 := by
  have := List.find?_some h
  simp [Tr.hits] at this
  exact this.2
theorem number_none (d : Nat) (D : DSt) (R : DRep) (F : Nat → Prop) (w : World) (h : DiskAt w F d D R) (hh : D.hit = none) :
    Calls Tryz.prog 226 #[.pointer (some ⟨d, 0, none⟩)] w fun e w' => e = .returned (.tuple #[.agg #[.int .i64 0, .int .i64 0, .int .i64 0], .bool false]) ∧ DiskAt w' F d D.numbered R ∧ Keep (fun b => b = d) w w' := by
  have := number_any d D R F w h
  rw [hh] at this
  exact this
theorem number_some (d : Nat) (D : DSt) (R : DRep) (F : Nat → Prop) (t : Tr) (w : World) (h : DiskAt w F d D R) (hh : D.hit = some t) :
    Calls Tryz.prog 226 #[.pointer (some ⟨d, 0, none⟩)] w fun e w' => e = .returned (.tuple #[.agg #[.int .i64 t.at_, .int .i64 t.kind, .int .i64 t.bytes], .bool true]) ∧ DiskAt w' F d D.numbered R ∧ Keep (fun b => b = d) w w' := by
  have := number_any d D R F w h
  rw [hh] at this
  exact this
set_option maxRecDepth 100000 in
set_option maxHeartbeats 1000000 in
theorem act_done (d : Nat) (D : DSt) (R : DRep) (F : Nat → Prop) (fails : Bool) (fd fp : FuncId) (cd cp : Array Value) (Q : World → Prop) (w : World) (h : DiskAt w F d D R) (hf : D.fate fails = .done)
    (hcf : ∀ w, (callFunc fd cd).run Tryz.prog w = .ok (.enter fd cd) w)
    (hd : ∀ w1, DiskAt w1 F d D.numbered R → Keep (fun b => b = d) w w1 → Calls Tryz.prog fd cd w1 fun e w2 => e = .returned (.tuple #[]) ∧ Q w2) :
    Calls Tryz.prog 188 #[.pointer (some ⟨d, 0, none⟩), .bool fails, .func (.func fd) #[] cd, .func (.func fp) #[] cp] w fun e w' => e = .returned .nilIface ∧ Q w' := by
  have HD := Hid.intro_ hd
  clear hd
  cases hh : D.hit with
  | none =>
    clear hf
    have HH := Hid.intro_ hh
    clear hh
    go_enter Tryz.func188, Tryz.ntmps188
    go_wp2_with (go_at_call 226; refine (number_none d D R F _ h HH.out).mono ?_; rintro e w1 ⟨rfl, hD1, hk1⟩)
    refine (HD.out _ (hD1.nil ((Keep.refl _ _).alloc _)) (hk1.alloc _)).mono ?_
    rintro e w2 ⟨rfl, hq⟩
    go_wp2
    go_ret
    exact ⟨rfl, hq⟩
  | some t =>
    have hk := hit_kind hh
    have h1 : t.kind = 1 ∧ fails = false := by
      simp only [DSt.fate, hh] at hf
      rcases hk with hk | hk
      · rw [if_pos hk] at hf
        cases hq : fails
        · exact ⟨hk, rfl⟩
        · rw [hq] at hf; simp at hf
      · rw [if_neg (by omega)] at hf; cases hf
    obtain ⟨hk1, rfl⟩ := h1
    have HH := Hid.intro_ hh
    have e1 : (t.kind == 1) = true := by simpa using hk1
    have e2 : (t.kind == 2) = false := by simp [hk1]
    clear hh hk hk1 hf
    go_enter Tryz.func188, Tryz.ntmps188
    go_wp2_with (go_at_call 226; refine (number_some d D R F t _ h HH.out).mono ?_; rintro e w1 ⟨rfl, hD1, hk1⟩)
    refine (HD.out _ (hD1.nil ((Keep.refl _ _).alloc _)) (hk1.alloc _)).mono ?_
    rintro e w2 ⟨rfl, hq⟩
    go_wp2
    go_ret
    exact ⟨rfl, hq⟩
def DSt.faulted (D : DSt) : DSt := { D.numbered with faults := wrap64 (D.faults + 1) }
set_option maxRecDepth 100000 in
set_option maxHeartbeats 1000000 in
theorem act_fault (d : Nat) (D : DSt) (R : DRep) (F : Nat → Prop) (E : Nat → Addr) (fd fp : FuncId) (cd cp : Array Value) (w : World) (h : DiskAt w F d D R) (he : Env w F E) (hf : D.fate true = .fault) :
    Calls Tryz.prog 188 #[.pointer (some ⟨d, 0, none⟩), .bool true, .func (.func fd) #[] cd, .func (.func fp) #[] cp] w fun e w' =>
      e = .returned (.iface 421 (.pointer (some (E 8)))) ∧ DiskAt w' F d D.faulted R ∧ Keep (fun b => b = d) w w' := by
  cases hh : D.hit with
  | none => simp [DSt.fate, hh] at hf
  | some t =>
    have h1 : t.kind = 1 := by
      simp only [DSt.fate, hh] at hf
      by_cases q : t.kind = 1
      · exact q
      · rw [if_neg q] at hf; cases hf
    have HH := Hid.intro_ hh
    have e1 : (t.kind == 1) = true := by simpa using h1
    clear hh h1 hf
    go_enter Tryz.func188, Tryz.ntmps188
    go_wp2_with (go_at_call 226; refine (number_some d D R F t _ h HH.out).mono ?_; rintro e w1 ⟨rfl, hD1, hk1⟩
                 have c8 : w1.cell? ⟨d, 8, none⟩ = some (.int .i64 D.faults) := hD1.blk.at_ 8
                 have f8 : w1.frozen? ⟨d, 8, none⟩ = false := hD1.blk.fr 8
                 have hdl := hD1.blk.lt
                 have v8 : w1.cell? ⟨3, 0, none⟩ = some (.iface 421 (.pointer (some (E 8)))) := cell_keep (he.errs.var 8 (by decide)) hk1 (fun e => he.nv 8 (by decide) (by rw [show errVar 8 = d from e]; exact h.fd))
                 have nv8 : ¬ d = 3 := fun e => he.nv 8 (by decide) (by rw [show errVar 8 = d from e.symm]; exact h.fd)
                 have nv8' : ¬ 3 = d := fun e => nv8 e.symm
                 have l8 : 3 < w1.heap.size := cell_lt v8)
    go_ret
    have hk8 := (Keep.refl (fun b => b = d) w1).setCell (p := ⟨d, 8, none⟩) (fun _ => rfl) (.int .i64 (wrap64 (D.faults + 1)))
    refine ⟨rfl, ?_, (hk1.then_ hk8).alloc _⟩
    refine DiskAt.nil ?_ ((Keep.refl Nil _).alloc _)
    refine DiskAt.turn (D' := D.faulted) hD1 hk8 (Blk.set_ hD1.blk 8 _) rfl rfl ?_
    obtain ⟨a1, a2, a3, a4, a5, a6, a7, a8, a9, a10, a11⟩ := hD1.ok
    exact ⟨a1, a2, a3, a4, a5, a6, a7, a8, a9, a10, a11⟩
/-- The power goes off. -/
def DSt.cutOff (D : DSt) : DSt := { D with on := false }
set_option maxRecDepth 100000 in
set_option maxHeartbeats 1000000 in
theorem act_cut (d : Nat) (D : DSt) (R : DRep) (F : Nat → Prop) (E : Nat → Addr) (fails : Bool) (n : Int) (fd fp : FuncId) (cd cp : Array Value) (D2 : DSt) (w : World) (h : DiskAt w F d D R) (he : Env w F E) (hf : D.fate fails = .cut n)
    (hcf : ∀ w, (callFunc fp (#[.int .i64 n] ++ cp)).run Tryz.prog w = .ok (.enter fp (#[.int .i64 n] ++ cp)) w)
    (hd : ∀ w1, DiskAt w1 F d D.numbered R → Keep (fun b => b = d) w w1 → Calls Tryz.prog fp (#[.int .i64 n] ++ cp) w1 fun e w2 => e = .returned (.tuple #[]) ∧ ∃ F2 R2, DiskAt w2 F2 d D2 R2 ∧ Stp w1 F w2 F2) :
    Calls Tryz.prog 188 #[.pointer (some ⟨d, 0, none⟩), .bool fails, .func (.func fd) #[] cd, .func (.func fp) #[] cp] w fun e w' =>
      e = .returned (.iface 421 (.pointer (some (E 0)))) ∧ ∃ F2 R2, DiskAt w' F2 d D2.cutOff R2 ∧ Stp w F w' F2 := by
  have HD := Hid.intro_ hd
  clear hd
  cases hh : D.hit with
  | none => simp [DSt.fate, hh] at hf
  | some t =>
    have hk := hit_kind hh
    have h1 : t.kind = 2 ∧ t.bytes = n := by
      simp only [DSt.fate, hh] at hf
      by_cases q : t.kind = 1
      · rw [if_pos q] at hf; cases fails <;> simp at hf
      · rw [if_neg q] at hf
        injection hf with hf
        exact ⟨by omega, hf⟩
    obtain ⟨h1, rfl⟩ := h1
    have HH := Hid.intro_ hh
    have e1 : (t.kind == 1) = false := by simp [h1]
    have e2 : (t.kind == 2) = true := by simpa using h1
    clear hh h1 hf hk
    go_enter Tryz.func188, Tryz.ntmps188
    go_wp2_with (go_at_call 226; refine (number_some d D R F t _ h HH.out).mono ?_; rintro e w1 ⟨rfl, hD1, hk1⟩)
    refine (HD.out _ (hD1.nil ((Keep.refl _ _).alloc _)) (hk1.alloc _)).mono ?_
    rintro e w2 ⟨rfl, F2, R2, hD2, hs2⟩
    have hs : Stp w F w2 F2 := Stp.trans (w' := w1.alloc (.cells #[.int .i64 t.at_, .int .i64 t.kind, .int .i64 t.bytes] 290)) (F' := F) ⟨(hk1.alloc _).mono (fun b _ e => by rw [show b = d from e]; exact h.fd), fun b hb => .inl hb⟩ hs2
    have hE2 := he.step hs
    have c0 : w2.cell? ⟨d, 0, none⟩ = some (.bool D2.on) := hD2.blk.at_ 0
    have f0 : w2.frozen? ⟨d, 0, none⟩ = false := hD2.blk.fr 0
    have v0 : w2.cell? ⟨0, 0, none⟩ = some (.iface 421 (.pointer (some (E 0)))) := hE2.errs.var 0 (by decide)
    have nv0 : ¬ d = 0 := fun e => hE2.nv 0 (by decide) (by rw [show errVar 0 = d from e.symm]; exact hD2.fd)
    have nv0' : ¬ 0 = d := fun e => nv0 e.symm
    go_wp2
    go_ret
    have hk0 := (Keep.refl (fun b => b = d) w2).setCell (p := ⟨d, 0, none⟩) (fun _ => rfl) (.bool false)
    refine ⟨rfl, F2, R2, ?_, hs.trans ⟨hk0.mono (fun b _ e => by rw [show b = d from e]; exact hD2.fd), fun b hb => .inl hb⟩⟩
    refine DiskAt.turn (D' := D2.cutOff) hD2 hk0 (Blk.set_ hD2.blk 0 _) rfl rfl ?_
    obtain ⟨a1, a2, a3, a4, a5, a6, a7, a8, a9, a10, a11⟩ := hD2.ok
    exact ⟨a1, a2, a3, a4, a5, a6, a7, a8, a9, a10, a11⟩
end Go.Proofs.YtadipinnbehhhaaGreatDoor
namespace Go.Proofs.YtadipinnbehhhaaGreatDoor
open Go.RowKit

/-- An error of the disk, or none, and its number. -/
def ErrV (E : Nat → Addr) (v : Value) (n : Int) : Prop := (v = .nilIface ∧ n = 0) ∨ ∃ k, k < 9 ∧ v = .iface 421 (.pointer (some (E k))) ∧ n = errNo k
theorem told_v (E : Nat → Addr) (v : Value) (n : Int) (w : World) (hv : ErrV E v n) (h : ErrsAt w E) :
    Calls Tryz.prog 186 #[v] w fun e w' => e = .returned (.int .i64 n) ∧ Keep Nil w w' := by
  rcases hv with ⟨rfl, rfl⟩ | ⟨k, hk, rfl, rfl⟩
  · exact (told_nil w).mono fun e w' ⟨he, hw⟩ => ⟨he, by subst hw; exact Keep.refl _ _⟩
  · exact told_sent E k w hk h
/-- What a numbered call comes to: the disk behind it, and its number. -/
def DSt.outcome (D : DSt) (fails : Bool) (dn : DSt → DSt) (pt : Int → DSt → DSt) : DSt × Int :=
  match D.fate fails with
  | .done => (dn D.numbered, 0)
  | .fault => (D.faulted, 9)
  | .cut n => ((pt n D.numbered).cutOff, 10)
/-- The disk is D' now. -/
def DiskTo (d : Nat) (F : Nat → Prop) (D' : DSt) (w w' : World) : Prop := ∃ F' R', DiskAt w' F' d D' R' ∧ Stp w F w' F'
theorem DiskTo.of_keep {d : Nat} {F : Nat → Prop} {D' : DSt} {R : DRep} {w w' : World} (h : DiskAt w' F d D' R) (k : Keep (fun b => b = d) w w') : DiskTo d F D' w w' :=
  ⟨F, R, h, k.mono (fun b _ e => by rw [show b = d from e]; exact h.fd), fun b hb => .inl hb⟩
theorem DiskTo.nil {d : Nat} {F : Nat → Prop} {D' : DSt} {w w' w2 : World} (h : DiskTo d F D' w w') (k : Keep Nil w' w2) : DiskTo d F D' w w2 := by
  obtain ⟨F', R', h1, h2⟩ := h
  exact ⟨F', R', h1.nil k, h2.then_nil k⟩
theorem DiskTo.from_nil {d : Nat} {F : Nat → Prop} {D' : DSt} {w w' w2 : World} (h : DiskTo d F D' w' w2) (k : Keep Nil w w') : DiskTo d F D' w w2 := by
  obtain ⟨F', R', h1, h2⟩ := h
  exact ⟨F', R', h1, (Stp.of_nil k F).trans h2⟩
theorem DiskTo.env {d : Nat} {F : Nat → Prop} {D' : DSt} {w w' : World} {E : Nat → Addr} (h : DiskTo d F D' w w') (he : Env w F E) : ErrsAt w' E := by
  obtain ⟨F', R', h1, h2⟩ := h
  exact (he.step h2).errs
/-- A cut call: all of it, or nothing. -/
def partOf (dn : DSt → DSt) (n : Int) (D : DSt) : DSt := if 0 < n then dn D else D
end Go.Proofs.YtadipinnbehhhaaGreatDoor
namespace Go.Proofs.YtadipinnbehhhaaGreatDoor
open Go.RowKit

def DSt.made (D : DSt) (s : ByteArray) : DSt := { D with files := D.files ++ [(s, { done := false, blocks := [] })] }
theorem fpos_none_mem {s : ByteArray} : ∀ {fs : List (ByteArray × AFile)}, fpos s fs = none → s ∉ fs.map (·.1)
  | [], _ => by simp
  | (k, f) :: r, h => by
    by_cases q : s = k
    · subst q; simp [fpos] at h
    · simp only [fpos, q, if_false, Option.map_eq_none_iff] at h
      simp only [List.map_cons, List.mem_cons, not_or]
      exact ⟨q, fpos_none_mem h⟩
theorem zipWith_append_one {α β γ : Type} (f : α → β → γ) (a : α) (b : β) : ∀ (l : List α) (r : List β), r.length = l.length → List.zipWith f (l ++ [a]) (r ++ [b]) = List.zipWith f l r ++ [f a b]
  | [], [], _ => rfl
  | [], _ :: _, h => by simp at h
  | _ :: _, [], h => by simp at h
  | x :: l, y :: r, h => by
    simp only [List.cons_append, List.zipWith_cons_cons, List.cons.injEq, true_and]
    exact zipWith_append_one f a b l r (by simpa using h)
theorem total_append (a b : List (ByteArray × AFile)) : total (a ++ b) = total a + total b := by simp [total]
/-- A disk with one file more. -/
theorem DiskAt.push {w w2 : World} {F : Nat → Prop} {d g : Nat} {D : DSt} {R : DRep} {s : ByteArray} (h : DiskAt w F d D R) (hn : fpos s D.files = none) (hk : Keep (fun b => b = R.mb) w w2) (hg : w.heap.size ≤ g)
    (hm : MapAt w2 R.mb (links D.files R.reps ++ [(s, .pointer (some ⟨g, 0, none⟩))])) (hb : Blk w2 g 160 #[.int .i64 0, .slice none 0 0]) :
    DiskAt w2 (fun b => F b ∨ b = g) d (D.made s) { R with reps := R.reps ++ [(g, .slice none 0 0)] } := {
  blk := h.blk.keep hk (Ne.symm (h.map.ne h.blk))
  fd := .inl h.fd
  fm := .inl h.fm
  map := by
    have : links (D.made s).files (R.reps ++ [(g, .slice none 0 0)]) = links D.files R.reps ++ [(s, .pointer (some ⟨g, 0, none⟩))] := zipWith_append_one _ _ _ _ _ h.len
    rw [this]
    exact hm
  len := by simp [DSt.made, h.len]
  fbs := by
    rw [List.map_append, List.nodup_append]
    refine ⟨h.fbs, by simp, fun a ha b hb2 => ?_⟩
    simp only [List.map_cons, List.map_nil, List.mem_singleton] at hb2
    subst hb2
    rintro rfl
    obtain ⟨r, hr, e⟩ := List.mem_map.1 ha
    obtain ⟨i, hi⟩ := List.mem_iff_getElem?.1 hr
    have hl : i < D.files.length := by rw [← h.len]; exact (List.getElem?_eq_some_iff.1 hi).1
    have := h.lt _ (h.file i _ r (List.getElem?_eq_getElem hl) hi).inF
    omega
  file := fun i f r hf hr => by
    simp only [DSt.made] at hf
    by_cases hi : i < D.files.length
    · rw [List.getElem?_append_left hi] at hf
      rw [List.getElem?_append_left (by rw [h.len]; exact hi)] at hr
      have q := h.file i f r hf hr
      refine (q.keep hk (Ne.symm (h.map.ne q.blk)) (fun x hx => ?_) (fun b cs fr _ hc e => ?_)).mono (fun _ hb => .inl hb)
      · obtain ⟨vs, g3, _, _⟩ := q.row
        intro e
        rcases g3.2 with ⟨e1, _⟩ | ⟨g', cap, cur, e1, _, hh, _⟩
        · rw [e1] at hx; simp [Value.ownBlock] at hx
        · rw [e1] at hx
          have e2 : g' = x := by simpa [Value.ownBlock] using hx
          exact h.map.ne (show Blk w g' _ cur from hh) (by rw [e2]; exact e.symm)
      · subst e
        obtain ⟨es, cl, h1, _⟩ := h.map
        rw [h1] at hc
        cases hc
    · have hl : D.files.length ≤ i := by omega
      rw [List.getElem?_append_right hl] at hf
      rw [List.getElem?_append_right (by rw [h.len]; exact hl), h.len] at hr
      have h0 : i - D.files.length = 0 := by
        have := (List.getElem?_eq_some_iff.1 hf).1
        simp at this
        omega
      rw [h0] at hf hr
      simp only [List.getElem?_cons_zero, Option.some.injEq] at hf hr
      subst hf hr
      exact ⟨hb, .inr rfl, [], World.ownsRow_nil _ _ _ _, fun x hx => by simp [Value.ownBlock] at hx, fun j u bs hu => by simp at hu⟩
  row := fun i j r t x hr ht hx hy => by
    have key : ∀ (i : Nat) (r : Nat × Value) (x : Nat), (R.reps ++ [(g, .slice none 0 0)])[i]? = some r → r.2.ownBlock = some x → R.reps[i]? = some r := by
      intro i r x hr hx
      by_cases hi : i < R.reps.length
      · rwa [List.getElem?_append_left hi] at hr
      · rw [List.getElem?_append_right (by omega)] at hr
        have h0 : i - R.reps.length = 0 := by
          have := (List.getElem?_eq_some_iff.1 hr).1
          simp at this
          omega
        rw [h0] at hr
        simp only [List.getElem?_cons_zero, Option.some.injEq] at hr
        subst hr
        simp [Value.ownBlock] at hx
    exact h.row i j r t x (key i r x hr hx) (key j t x ht hy) hx hy
  trs := fun j u hu => by
    obtain ⟨b, e, hc⟩ := h.trs j u hu
    refine ⟨b, e, cell_keep hc hk (fun e2 => ?_)⟩
    obtain ⟨_, cs, fr, hbb⟩ := h.ftr b e
    obtain ⟨es, cl, h1, _⟩ := h.map
    rw [show b = R.mb from e2, h1] at hbb
    cases hbb
  ftr := fun b e => by
    obtain ⟨h0, cs, fr, hbb⟩ := h.ftr b e
    refine ⟨.inl h0, cs, fr, (hk.same _ (lt_of_heap hbb) (fun e2 => ?_)).trans hbb⟩
    obtain ⟨es, cl, h1, _⟩ := h.map
    rw [show b = R.mb from e2, h1] at hbb
    cases hbb
  tcl := h.tcl
  tcm := h.tcm
  lt := fun b hb2 => hb2.elim (fun hf => Nat.lt_of_lt_of_le (h.lt b hf) hk.size) (fun e => by subst e; exact hb.lt)
  ok := by
    obtain ⟨a1, a2, a3, a4, a5, a6, a7, a8, a9, a10, a11⟩ := h.ok
    refine ⟨a1, a2, a3, a4, ?_, a6, a7, a8, fun f hf b hb2 => ?_, fun f hf b hb2 => ?_, ?_⟩
    · simp only [DSt.made, total_append]
      simpa [total] using a5
    · rcases List.mem_append.1 hf with hf | hf
      · exact a9 f hf b hb2
      · simp only [List.mem_singleton] at hf
        subst hf
        simp at hb2
    · rcases List.mem_append.1 hf with hf | hf
      · exact a10 f hf b hb2
      · simp only [List.mem_singleton] at hf
        subst hf
        simp at hb2
    · simp only [DSt.made, List.map_append, List.map_cons, List.map_nil]
      rw [List.nodup_append]
      refine ⟨a11, by simp, fun a ha b hb2 => ?_⟩
      simp only [List.mem_singleton] at hb2
      subst hb2
      rintro rfl
      exact fpos_none_mem hn ha }
end Go.Proofs.YtadipinnbehhhaaGreatDoor
namespace Go.Proofs.YtadipinnbehhhaaGreatDoor
open Go.RowKit

def DSt.create (D : DSt) (s : ByteArray) : DSt × Int :=
  if D.on = false then (D, 10) else if okName s = false then (D, 11) else if fpos s D.files ≠ none then (D, 13) else
  D.outcome true (fun D => D.made s) (partOf fun D => D.made s)
end Go.Proofs.YtadipinnbehhhaaGreatDoor
namespace Go.Proofs.YtadipinnbehhhaaGreatDoor
open Go.RowKit

/-- The file of a name turns. -/
def updF (s : ByteArray) (g : AFile → AFile) (fs : List (ByteArray × AFile)) : List (ByteArray × AFile) := fs.map fun p => if p.1 = s then (p.1, g p.2) else p
theorem updF_names (s : ByteArray) (g : AFile → AFile) (fs : List (ByteArray × AFile)) : (updF s g fs).map (·.1) = fs.map (·.1) := by
  simp only [updF, List.map_map]
  apply List.map_congr_left
  intro p _
  simp only [Function.comp]
  split <;> rfl
theorem nodup_eq {α : Type} : ∀ {l : List α}, l.Nodup → ∀ {i j : Nat} {a : α}, l[i]? = some a → l[j]? = some a → i = j
  | [], _, i, j, a, hi, _ => by simp at hi
  | x :: xs, hn, i, j, a, hi, hj => by
    rw [List.nodup_cons] at hn
    cases i with
    | zero =>
      cases j with
      | zero => rfl
      | succ j =>
        simp only [List.getElem?_cons_zero, Option.some.injEq] at hi
        subst hi
        rw [List.getElem?_cons_succ] at hj
        exact absurd (List.mem_of_getElem? hj) hn.1
    | succ i =>
      cases j with
      | zero =>
        simp only [List.getElem?_cons_zero, Option.some.injEq] at hj
        subst hj
        rw [List.getElem?_cons_succ] at hi
        exact absurd (List.mem_of_getElem? hi) hn.1
      | succ j =>
        rw [List.getElem?_cons_succ] at hi hj
        rw [nodup_eq hn.2 hi hj]
section
variable {w w' : World} {F F' : Nat → Prop} {d : Nat} {D D' : DSt} {R : DRep}

theorem own_blk {base : Nat} {e : TypeId} {size n : Nat} {v : Value} {xs : List Value} (h : w.ownsRow base e size v n xs) {g : Nat} (hg : v.ownBlock = some g) : ∃ cur, Blk w g e cur := by
  rcases h.2 with ⟨rfl, _⟩ | ⟨g', cap, cur, rfl, _, hh, _⟩
  · simp [Value.ownBlock] at hg
  · have : g' = g := by simpa [Value.ownBlock] using hg
    subst this
    exact ⟨cur, hh⟩
end
end Go.Proofs.YtadipinnbehhhaaGreatDoor
namespace Go.Proofs.YtadipinnbehhhaaGreatDoor
open Go.RowKit

/-- The file of a name is another one. -/
def DSt.setF (D : DSt) (s : ByteArray) (f : AFile) : DSt := { D with files := updF s (fun _ => f) D.files }
def DSt.seal_ (D : DSt) (s : ByteArray) : DSt × Int := match D.perr s with
  | some k => (D, errNo k)
  | none => match fpos s D.files with
    | none => (D, 0)
    | some (_, f) => if f.done = true then (D, errNo 4) else D.outcome true (fun D => D.setF s { f with done := true }) (partOf fun D => D.setF s { f with done := true })
theorem total_upd {s : ByteArray} {f : AFile} : ∀ {fs : List (ByteArray × AFile)} {i : Nat} {g : AFile}, (fs.map (·.1)).Nodup → fs[i]? = some (s, g) → total (updF s (fun _ => f) fs) + g.blocks.length = total fs + f.blocks.length
  | [], _, _, _, h => by simp at h
  | (k, x) :: fs, i, g, hn, h => by
    simp only [List.map_cons, List.nodup_cons] at hn
    cases i with
    | zero =>
      simp only [List.getElem?_cons_zero, Option.some.injEq, Prod.mk.injEq] at h
      obtain ⟨rfl, rfl⟩ := h
      have : updF k (fun _ => f) fs = fs := by
        unfold updF
        conv => rhs; rw [← List.map_id fs]
        apply List.map_congr_left
        intro p hp
        rw [if_neg]
        · rfl
        · intro e
          exact hn.1 (e ▸ List.mem_map_of_mem (f := (·.1)) hp)
      have e : updF k (fun _ => f) ((k, x) :: fs) = (k, f) :: updF k (fun _ => f) fs := by simp [updF]
      rw [e, this]
      simp [total]; omega
    | succ i =>
      have hne : ¬ k = s := by
        rintro rfl
        exact hn.1 (List.mem_map.2 ⟨(k, g), List.mem_of_getElem? (by simpa using h), rfl⟩)
      have ih := total_upd (f := f) hn.2 (i := i) (g := g) (by simpa using h)
      have e : updF s (fun _ => f) ((k, x) :: fs) = (k, x) :: updF s (fun _ => f) fs := by simp [updF, hne]
      rw [e]
      simp [total] at ih ⊢; omega
theorem mem_upd {s : ByteArray} {f : AFile} {fs : List (ByteArray × AFile)} {p : ByteArray × AFile} (h : p ∈ updF s (fun _ => f) fs) : p = (s, f) ∨ p ∈ fs := by
  obtain ⟨q, hq, rfl⟩ := List.mem_map.1 h
  split
  · rename_i e; exact .inl (by rw [← e])
  · exact .inr hq
theorem fpos_reps {w : World} {F : Nat → Prop} {d : Nat} {D : DSt} {R : DRep} {s : ByteArray} {i : Nat} {f : AFile} (h : DiskAt w F d D R) (hf : fpos s D.files = some (i, f)) : ∃ r, R.reps[i]? = some r ∧ D.files[i]? = some (s, f) := by
  obtain ⟨r, h1, h2, _⟩ := (pos_links s D.files R.reps h.len).2 i f hf
  exact ⟨r, h1, h2⟩
end Go.Proofs.YtadipinnbehhhaaGreatDoor
namespace Go.Proofs.YtadipinnbehhhaaGreatDoor
open Go.RowKit

/-- What Length answers: the blocks, whether it is sealed, the number. -/
def DSt.length (D : DSt) (s : ByteArray) : Int × Bool × Int := match D.perr s with
  | some k => (0, false, errNo k)
  | none => match fpos s D.files with
    | none => (0, false, 0)
    | some (_, f) => (f.blocks.length, f.done, 0)
theorem perr_lt {D : DSt} {s : ByteArray} {k : Nat} (hp : D.perr s = some k) : k < 9 := by
  unfold DSt.perr DSt.ferr at hp
  split at hp
  · injection hp; omega
  · split at hp
    · injection hp; omega
    · split at hp
      · injection hp; omega
      · cases hp
theorem FileAt.len {w : World} {F : Nat → Prop} {r : Nat × Value} {f : AFile} (h : FileAt w F r f) : ∃ a c, r.2 = .slice a f.blocks.length c ∧ f.blocks.length ≤ c ∧ c ≤ maxLen := by
  obtain ⟨vs, ⟨h1, h2⟩, _⟩ := h.row
  rcases h2 with ⟨e, h0⟩ | ⟨g, cap, cur, e, _, _, hle, hcap, _⟩
  · rw [e, h0]; exact ⟨_, _, rfl, by simp, by decide⟩
  · exact ⟨_, _, e, hle, hcap⟩
set_option maxRecDepth 100000 in
set_option maxHeartbeats 1000000 in
theorem length_any (d : Nat) (D : DSt) (R : DRep) (F : Nat → Prop) (E : Nat → Addr) (s : ByteArray) (w : World) (h : DiskAt w F d D R) (he : Env w F E) :
    Calls Tryz.prog 182 #[.pointer (some ⟨d, 0, none⟩), .string s] w fun e w' =>
      e = .returned (.tuple #[.int .i64 (D.length s).1, .bool (D.length s).2.1, .int .i64 (D.length s).2.2]) ∧ Keep Nil w w' := by
  unfold DSt.length
  cases hp : D.perr s with
  | some k =>
    have HP := Hid.intro_ hp
    have hk := perr_lt hp
    clear hp
    go_enter Tryz.func182, Tryz.ntmps182
    go_wp2_with (first
      | (go_at_call 198; refine (powered_bad d D R F E s k _ h he HP.out).mono ?_; rintro e w1 ⟨rfl, hd1⟩)
      | (go_at_call 186; refine (told_about s E k _ hk (by exact (he.nil hd1.keep).errs)).mono ?_; rintro e w2 ⟨rfl, hk2⟩))
    go_ret3
    exact ⟨rfl, hd1.keep.then_ hk2⟩
  | none =>
    obtain ⟨ho, hn, i, f, hf⟩ := perr_on hp
    obtain ⟨r, hr, hi⟩ := fpos_reps h hf
    simp only [hf]
    have HO := Hid.intro_ ho
    have HN := Hid.intro_ hn
    have HF := Hid.intro_ hf
    have HR := Hid.intro_ hr
    have hfi := h.file i _ r hi hr
    obtain ⟨a, c, hv, hlc, hcm⟩ := hfi.len
    have c0 := hfi.blk.at_ 0
    have c1 := hfi.blk.at_ 1
    rw [hv] at c1
    simp only [List.getElem?_toArray, List.getElem?_cons_zero, List.getElem?_cons_succ] at c0 c1
    clear hp ho hn hf hr hi
    cases hd : f.done
    all_goals
      simp only [hd] at c0
      go_enter Tryz.func182, Tryz.ntmps182
      go_wp2_with (go_at_call 198; refine (powered_ok d D R F s i f r _ h HO.out HN.out HF.out HR.out).mono ?_; rintro e w' ⟨rfl, rfl⟩)
      go_region
      go_wp2
      go_ret3
      exact ⟨rfl, (Keep.refl Nil _).drew⟩
set_option maxHeartbeats 400000 in
theorem on_any (d : Nat) (D : DSt) (R : DRep) (F : Nat → Prop) (w : World) (h : DiskAt w F d D R) :
    Calls Tryz.prog 86 #[.pointer (some ⟨d, 0, none⟩)] w fun e w' => e = .returned (.bool D.on) ∧ w' = w := by
  have c0 : w.cell? ⟨d, 0, none⟩ = some (.bool D.on) := h.blk.at_ 0
  go_enter Tryz.func86, Tryz.ntmps86
  go_wp2
  go_ret
  exact ⟨rfl, rfl⟩
set_option maxHeartbeats 400000 in
theorem block_any (d : Nat) (D : DSt) (R : DRep) (F : Nat → Prop) (w : World) (h : DiskAt w F d D R) :
    Calls Tryz.prog 123 #[.pointer (some ⟨d, 0, none⟩)] w fun e w' => e = .returned (.int .i64 D.block) ∧ w' = w := by
  have c0 : w.cell? ⟨d, 1, none⟩ = some (.int .i64 D.block) := h.blk.at_ 1
  go_enter Tryz.func123, Tryz.ntmps123
  go_wp2
  go_ret
  exact ⟨rfl, rfl⟩
end Go.Proofs.YtadipinnbehhhaaGreatDoor
namespace Go.Proofs.YtadipinnbehhhaaGreatDoor
open Go.RowKit

theorem info_u8 : (Tryz.prog.info? 5).map (fun i => (i.zero, i.size, i.bytes)) = some (some (.int .u8 0), 1, 1) := by kernel_rfl
theorem info_bytes : (Tryz.prog.info? 161).map (fun i => (i.zero, i.size, i.bytes)) = some (some (.slice none 0 0), 1, 24) := by kernel_rfl
theorem Keep.of_grown {w w' : World} {row : Option Nat} (h : w.grownBy w' row) : Keep (fun b => row = some b) w w' :=
  ⟨h.os, h.tape, h.output, h.size, fun b hb hn => h.block b hb (fun e => hn e.symm)⟩
theorem Keep.of_grown_none {w w' : World} (h : w.grownBy w' none) : Keep Nil w w' := ⟨h.os, h.tape, h.output, h.size, fun b hb _ => h.block b hb (by simp)⟩
/-- append onto a row of one's own, as one step of a region that draws. -/
theorem step_append_own {P : Program} {ops : Array Oper} {o : Oper} {a : Act} {w : World} {K : Act → World → Prop} {Q : Exit → Act → World → Prop} {Z : Prop}
    (hg : o.guard = none) (s x : Operand) (t : TypeId) (ho : o.op = Op.call { callee := Callee.builtin Builtin.append, args := #[s, x], argTypes := #[t, t] })
    (base : Nat) (e : TypeId) (i : TypeInfo) (z : Value) (size bytes : Nat) (ht : P.underlying t = some (.slice e)) (hi : P.info? e = some i) (hz : i.zero = some z)
    (hsize : i.size = size) (hby : i.bytes = bytes) (hzs : z.cells.size = size) (hsz : 0 < size)
    (v : Value) (n : Nat) (xs : List Value) (hs : a.eval s = v) (hown : w.ownsRow base e size v n xs)
    (ad : Addr) (m c : Nat) (news : List Value) (hx : a.eval x = .slice (some ad) m c) (hl : news.length = m * size) (hnews : ∀ j u, news[j]? = some u → w.cell? (ad.add j) = some u) (h1 : ∀ u ∈ news, u.oneCell' = true)
    (h63 : n + m ≤ maxLen) (hbytes : (n + m) * bytes ≤ 140737488355328) (hbase : base ≤ w.heap.size)
    (hK : ∀ av cv w', Hid (w'.ownsRow base e size (.slice av (n + m) cv) (n + m) (xs ++ news)) → Keep (fun b => v.ownBlock = some b) w w' → Hid ((Value.slice av (n + m) cv).ownBlock = v.ownBlock ∨ (Value.slice av (n + m) cv).ownBlock = some w.heap.size) → K (a.put o.dst (.slice av (n + m) cv)) w') :
    if Region.wanted o (yielded ops a.tmps) = true then Oper.wp P o a w K Q else Z := by
  have hw : Region.wanted o (yielded ops a.tmps) = true := by simp [Region.wanted, hg]
  rw [if_pos hw]
  obtain ⟨v', w', hr, h2, h3, h4, h5⟩ := run_append_own_at (P := P) w base t o.type e i z size bytes ht hi hz hsize hby hzs hsz v n xs hown ad m c news hl hnews h1 h63 hbytes hbase
  unfold Oper.wp execOp
  simp only [ho, resolve, invoke, builtin, Sem.run_bind, Sem.run_pure, Result.andThen_ok, List.map_toArray, List.map_cons, List.map_nil, hs, hx, hr]
  have hv : ∃ av cv, v' = .slice av (n + m) cv := by
    rcases h2.2 with ⟨rfl, e⟩ | ⟨g, cap, cur, rfl, _⟩
    · rw [e]; exact ⟨_, _, rfl⟩
    · exact ⟨_, _, rfl⟩
  obtain ⟨av, cv, rfl⟩ := hv
  exact hK av cv w' h2 (Keep.of_grown h3) h5
theorem one_new (w : World) (t : TypeId) (x : Value) : ∀ (j : Nat) (u : Value), [x][j]? = some u → (w.alloc (.cells #[x] t)).cell? (Addr.add ⟨w.heap.size, 0, none⟩ j) = some u := by
  intro j u hu
  have hj := (List.getElem?_eq_some_iff.1 hu).1
  simp at hj
  subst hj
  simp at hu
  subst hu
  exact (Blk.new w t #[x]).at_ 0
/-- A row of one's own reads as its cells. -/
theorem own_rd {w : World} {base : Nat} {e : TypeId} {size n : Nat} {xs : List Value} {a : Option Addr} {m c : Nat} (h : w.ownsRow base e size (.slice a m c) n xs) : Rd w a xs := by
  intro j u hu
  rcases h with ⟨hl, ⟨hv, h0⟩ | ⟨g, cap, cur, hv, _, hh, hle, hm, hs, ht⟩⟩
  · subst h0
    simp at hl
    subst hl
    simp at hu
  · injection hv with ha _ _
    refine ⟨⟨g, 0, none⟩, ha, ?_⟩
    rw [← ht] at hu
    have hj : j < n * size := by
      have := (List.getElem?_eq_some_iff.1 hu).1
      simp at this
      omega
    rw [List.getElem?_take_of_lt hj] at hu
    by_cases h0 : j = 0
    · subst h0
      simpa [World.cell?, hh, Addr.add] using hu
    · simpa [World.cell?, hh, Addr.add, h0] using hu
end Go.Proofs.YtadipinnbehhhaaGreatDoor
namespace Go.Proofs.YtadipinnbehhhaaGreatDoor
open Go.RowKit

/-- n bytes of a block, the rest 0. -/
def pad (n : Nat) (bs : List Int) : List Int := bs.take n ++ List.replicate (bs.length - n) 0
/-- A block more. -/
def DSt.put (D : DSt) (s : ByteArray) (f : AFile) (b : List Int) : DSt :=
  { D.setF s { f with blocks := f.blocks ++ [b] } with used := D.used + 1, most := max D.most (D.used + 1) }
theorem Ok.put {D : DSt} (h : D.Ok) {s : ByteArray} {i : Nat} {f : AFile} {b : List Int} (hi : D.files[i]? = some (s, f)) (hr : D.used < D.room) (hb : (b.length : Int) = D.block) (h8 : ∀ x ∈ b, 0 ≤ x ∧ x ≤ 255) : (D.put s f b).Ok := by
  obtain ⟨a1, a2, a3, a4, a5, a6, a7, a8, a9, a10, a11⟩ := h
  have hm : (s, f) ∈ D.files := List.mem_of_getElem? hi
  refine ⟨a1, a2, a3, a4, ?_, ?_, ?_, ?_, fun p hp c hc => ?_, fun p hp c hc => ?_, ?_⟩
  · have := total_upd (f := { f with blocks := f.blocks ++ [b] }) a11 hi
    simp only [List.length_append, List.length_cons, List.length_nil] at this
    show D.used + 1 = (total (updF s (fun _ => { f with blocks := f.blocks ++ [b] }) D.files) : Int)
    rw [a5]
    omega
  · show D.used + 1 ≤ D.room
    omega
  · show max D.most (D.used + 1) ≤ D.room
    omega
  · show 0 ≤ max D.most (D.used + 1)
    omega
  · rcases mem_upd hp with rfl | hp
    · rcases List.mem_append.1 hc with hc | hc
      · exact a9 _ hm c hc
      · simp only [List.mem_singleton] at hc; subst hc; exact hb
    · exact a9 p hp c hc
  · rcases mem_upd hp with rfl | hp
    · rcases List.mem_append.1 hc with hc | hc
      · exact a10 _ hm c hc
      · simp only [List.mem_singleton] at hc; subst hc; exact h8
    · exact a10 p hp c hc
  · rw [show (D.put s f b).files = updF s (fun _ => { f with blocks := f.blocks ++ [b] }) D.files from rfl, updF_names]; exact a11
theorem le_sum : ∀ {l : List Nat} {x : Nat}, x ∈ l → x ≤ l.sum
  | [], _, h => by simp at h
  | a :: l, x, h => by
    rcases List.mem_cons.1 h with rfl | h
    · simp
    · have := le_sum h; simp; omega
theorem blocks_le {D : DSt} (h : D.Ok) {i : Nat} {s : ByteArray} {f : AFile} (hi : D.files[i]? = some (s, f)) : (f.blocks.length : Int) ≤ D.used := by
  rw [h.used]
  have : f.blocks.length ≤ total D.files := by
    unfold total
    exact le_sum (List.mem_map.2 ⟨_, List.mem_of_getElem? hi, rfl⟩)
  omega
end Go.Proofs.YtadipinnbehhhaaGreatDoor
namespace Go.Proofs.YtadipinnbehhhaaGreatDoor
open Go.RowKit

def DSt.appended (D : DSt) : DSt := { D with appends := wrap64 (D.appends + 1) }
/-- What a cut leaves of an append. -/
def partPut (s : ByteArray) (f : AFile) (bs : List Int) (n : Int) (D : DSt) : DSt := if 0 < n then D.put s f (pad (min n bs.length).toNat bs) else D
end Go.Proofs.YtadipinnbehhhaaGreatDoor
namespace Go.Proofs.YtadipinnbehhhaaGreatDoor
open Go.RowKit

def DSt.append_ (D : DSt) (s : ByteArray) (bs : List Int) : DSt × Int := match D.perr s with
  | some k => (D, errNo k)
  | none => match fpos s D.files with
    | none => (D, 0)
    | some (_, f) => if f.done = true then (D, errNo 4) else if ¬ (bs.length : Int) = D.block then (D, errNo 6) else if D.room ≤ D.used then ({ D with full := wrap64 (D.full + 1) }, errNo 7) else
      D.outcome true (fun D => (D.put s f bs).appended) (partPut s f bs)
end Go.Proofs.YtadipinnbehhhaaGreatDoor
namespace Go.Proofs.YtadipinnbehhhaaGreatDoor
open Go.RowKit

theorem total_erase : ∀ {fs : List (ByteArray × AFile)} {i : Nat} {s : ByteArray} {f : AFile}, fs[i]? = some (s, f) → total (fs.eraseIdx i) + f.blocks.length = total fs
  | [], _, _, _, h => by simp at h
  | (k, x) :: fs, 0, s, f, h => by
    simp only [List.getElem?_cons_zero, Option.some.injEq, Prod.mk.injEq] at h
    obtain ⟨_, rfl⟩ := h
    simp [total]; omega
  | (k, x) :: fs, i + 1, s, f, h => by
    have ih := total_erase (fs := fs) (i := i) (by simpa using h)
    simp [total] at ih ⊢; omega
/-- The file at a place goes. -/
def DSt.drop (D : DSt) (i : Nat) (f : AFile) : DSt := { D with files := D.files.eraseIdx i, used := D.used - f.blocks.length }
theorem Ok.drop {D : DSt} (h : D.Ok) {s : ByteArray} {i : Nat} {f : AFile} (hi : D.files[i]? = some (s, f)) : (D.drop i f).Ok := by
  obtain ⟨a1, a2, a3, a4, a5, a6, a7, a8, a9, a10, a11⟩ := h
  have ht := total_erase hi
  refine ⟨a1, a2, a3, a4, ?_, ?_, a7, a8, fun p hp => a9 p (List.mem_of_mem_eraseIdx hp), fun p hp => a10 p (List.mem_of_mem_eraseIdx hp), ?_⟩
  · show D.used - f.blocks.length = (total (D.files.eraseIdx i) : Int)
    rw [a5]; omega
  · show D.used - f.blocks.length ≤ D.room
    omega
  · show ((D.files.eraseIdx i).map (·.1)).Nodup
    exact ((List.eraseIdx_sublist _ _).map _).nodup a11
end Go.Proofs.YtadipinnbehhhaaGreatDoor
namespace Go.Proofs.YtadipinnbehhhaaGreatDoor
open Go.RowKit

end Go.Proofs.YtadipinnbehhhaaGreatDoor
namespace Go.Proofs.YtadipinnbehhhaaGreatDoor
open Go.RowKit

/-- n bytes of v, the low one first. -/
def loB (v n : Nat) : List Int := (List.range n).map fun i => ((v / 256 ^ i % 256 : Nat) : Int)
theorem loB_len (v n : Nat) : (loB v n).length = n := by simp [loB]
theorem loB_succ (v n : Nat) : loB v (n + 1) = loB v n ++ [((v / 256 ^ n % 256 : Nat) : Int)] := by simp [loB, List.range_succ]
theorem by8_app (a b : List Int) : by8 (a ++ b) = by8 a ++ by8 b := by simp [by8]
set_option maxRecDepth 100000 in
set_option maxHeartbeats 4000000 in
theorem rnumber_any (base : Nat) (s0 : Value) (v n : Nat) (xs : List Int) (w : World) (ho : w.ownsRow base 5 1 s0 xs.length (by8 xs)) (hv : v < 18446744073709551616) (hn : n + xs.length ≤ 1099511627776) (hb : base ≤ w.heap.size) :
    Calls Tryz.prog 200 #[s0, .int .u64 v, .int .i64 n] w fun e w' => ∃ s, e = .returned s ∧ w'.ownsRow base 5 1 s (xs ++ loB v n).length (by8 (xs ++ loB v n)) ∧ Keep (fun b => s0.ownBlock = some b) w w' ∧ (s.ownBlock = s0.ownBlock ∨ ∃ g, s.ownBlock = some g ∧ w.heap.size ≤ g) := by
  have HO := Hid.intro_ ho
  clear ho
  obtain ⟨i0, hi0, hz0, hz1, hz2⟩ := info_parts info_u8
  go_enter Tryz.func200, Tryz.ntmps200
  go_wp2
  go_loopw [0, 1, 7] (fun s x i wr => ∃ (k : Nat) (r : Value), k ≤ n ∧ r = s ∧ i = .int .i64 k ∧ x = .int .u64 ((v / 256 ^ k : Nat) : Int) ∧ wr.ownsRow base 5 1 r (xs ++ loB v k).length (by8 (xs ++ loB v k)) ∧ Keep (fun b => s0.ownBlock = some b) w wr ∧ (r.ownBlock = s0.ownBlock ∨ ∃ g, r.ownBlock = some g ∧ w.heap.size ≤ g)) (fun _ _ i _ => n - (intOf i).toNat)
  case atStart => exact ⟨0, s0, Nat.zero_le _, rfl, rfl, by simp, by simpa [loB] using HO.out, Keep.refl _ _, .inl rfl⟩
  case round =>
    obtain ⟨k, r, hk, rfl, rfl, rfl, how, hkw, hbl⟩ := hrel
    have HW := Hid.intro_ how
    have HB := Hid.intro_ hbl
    clear how hbl
    by_cases hlt : k < n
    · have hlen : (xs ++ loB v k).length = xs.length + k := by rw [List.length_append, loB_len]
      have hy : v / 256 ^ k < 18446744073709551616 := Nat.lt_of_le_of_lt (Nat.div_le_self _ _) hv
      have hnx : v / 256 ^ (k + 1) = v / 256 ^ k / 256 := by rw [Nat.pow_succ, Nat.div_div_eq_div_mul]
      have HNX := Hid.intro_ hnx
      clear hnx
      obtain ⟨y, hyy⟩ : ∃ y, y = v / 256 ^ k := ⟨_, rfl⟩
      rw [← hyy] at hy HNX ⊢
      have HYY := Hid.intro_ hyy
      clear hyy
      go_wp2_with (at_builtin; refine wpList_append_own_at _ rfl (.tmp 13) (.tmp 17) 161 rfl base 5 i0 (.int .u8 0) 1 1 Tryz.underlying161 hi0 hz0 hz1 hz2 rfl (by decide) r (xs ++ loB v k).length (by8 (xs ++ loB v k)) (by simp [Act.eval]) (own_keep HW.out ((Keep.refl Nil _).alloc _) (fun g _ h => h)) ⟨wr.heap.size, 0, none⟩ 1 1 [.int .u8 ((y % 256 : Nat) : Int)] (by simp [Act.eval]) rfl (one_new _ _ _) (by simp [Value.oneCell']) (by unfold maxLen; omega) (by omega) (by have := hkw.size; simp; omega) ?_; intro s1 w1 ho1 hg1 _ hs1)
      have hnew : by8 (xs ++ loB v k) ++ [Value.int .u8 ((y % 256 : Nat) : Int)] = by8 (xs ++ loB v (k + 1)) := by
        rw [loB_succ, ← List.append_assoc, by8_app (xs ++ loB v k), HYY.out]; rfl
      have hlen2 : (xs ++ loB v k).length + 1 = (xs ++ loB v (k + 1)).length := by rw [List.length_append, List.length_append, loB_len, loB_len]; omega
      rw [hnew, hlen2] at ho1
      have k1 : Keep (fun b => r.ownBlock = some b) wr w1 := (((Keep.refl Nil wr).alloc _).mono (fun _ _ h => h.elim)).then_ (Keep.of_grown hg1)
      have k2 : Keep (fun b => s0.ownBlock = some b) w w1 := hkw.trans k1 (fun b hb e => by
        rcases HB.out with h | ⟨g, h, hg⟩
        · rw [← h]; exact e
        · rw [h] at e; injection e with e; omega)
      go_roundw
      case rel => exact ⟨k + 1, s1, by omega, rfl, by go_num, by rw [HNX.out]; rfl, ho1, k2, by
        rcases hs1 with h | h
        · rcases HB.out with h2 | ⟨g, h2, hg⟩
          · exact .inl (h.trans h2)
          · exact .inr ⟨g, h.trans h2, hg⟩
        · exact .inr ⟨_, h, by have := hkw.size; simp; omega⟩⟩
      case measure => simp [intOf]; omega
    · obtain rfl : k = n := by omega
      go_wp2
      go_ret
      exact ⟨r, rfl, HW.out, hkw, HB.out⟩
end Go.Proofs.YtadipinnbehhhaaGreatDoor
namespace Go.Proofs.YtadipinnbehhhaaGreatDoor

/-- One bit of the sum. -/
def bit1 (s : Nat) : Nat := (s >>> 1) ^^^ (if s.testBit 0 = true then 3988292384 else 0)
/-- A byte more. -/
def crcByte (s c : Nat) : Nat := bit1 (bit1 (bit1 (bit1 (bit1 (bit1 (bit1 (bit1 (s ^^^ c))))))))
def crcAll (s : Nat) (bs : List Nat) : Nat := bs.foldl crcByte s
theorem bit1_xor (a b : Nat) : bit1 (a ^^^ b) = bit1 a ^^^ bit1 b := by
  unfold bit1
  rw [Nat.shiftRight_xor_distrib, Nat.testBit_xor]
  have e : ∀ x y : Bool, (if (x ^^ y) = true then 3988292384 else 0) = (if x = true then 3988292384 else 0) ^^^ (if y = true then 3988292384 else 0) := by decide
  rw [e]
  generalize (if a.testBit 0 = true then 3988292384 else 0) = p
  generalize (if b.testBit 0 = true then 3988292384 else 0) = q
  rw [Nat.xor_assoc, Nat.xor_assoc]
  congr 1
  rw [← Nat.xor_assoc, ← Nat.xor_assoc, Nat.xor_comm (b >>> 1) p]
theorem bit1_even (a : Nat) : bit1 (2 * a) = a := by
  unfold bit1
  have h1 : (2 * a).testBit 0 = false := by simp
  rw [h1, if_neg (by decide), Nat.xor_zero, Nat.shiftRight_eq_div_pow]
  omega
/-- What the sum of a half byte comes to. -/
def half (i : Nat) : Nat := [0, 498536548, 997073096, 651767980, 1994146192, 1802195444, 1303535960, 1342533948, 3988292384, 4027552580, 3604390888, 3412177804, 2607071920, 2262029012, 2685067896, 3183342108].getD i 0
theorem half_eq : ∀ i, i < 16 → bit1 (bit1 (bit1 (bit1 i))) = half i := by decide
theorem half_lt : ∀ i, i < 16 → half i < 4294967296 := by decide
theorem split16 (s : Nat) : s = (16 * (s / 16)) ^^^ (s % 16) := by
  apply Nat.eq_of_testBit_eq
  intro i
  have e1 : 16 * (s / 16) = (s >>> 4) <<< 4 := by rw [Nat.shiftRight_eq_div_pow, Nat.shiftLeft_eq]; omega
  have e2 : s % 16 = s % 2 ^ 4 := rfl
  rw [Nat.testBit_xor, e1, e2, Nat.testBit_shiftLeft, Nat.testBit_shiftRight, Nat.testBit_mod_two_pow]
  by_cases h : 4 ≤ i
  · have : ¬ i < 4 := by omega
    simp [h, this]
  · have : i < 4 := by omega
    simp [h, this]
/-- Four bits at once, by the table. -/
theorem nibble (s : Nat) : bit1 (bit1 (bit1 (bit1 s))) = (s / 16) ^^^ half (s % 16) := by
  conv => lhs; rw [split16 s]
  rw [bit1_xor, bit1_xor, bit1_xor, bit1_xor, half_eq _ (Nat.mod_lt _ (by decide))]
  congr 1
  rw [show 16 * (s / 16) = 2 * (2 * (2 * (2 * (s / 16)))) from by omega, bit1_even, bit1_even, bit1_even, bit1_even]
theorem crcByte_nibbles (s c : Nat) : crcByte s c = ((((s ^^^ c) / 16) ^^^ half ((s ^^^ c) % 16)) / 16) ^^^ half ((((s ^^^ c) / 16) ^^^ half ((s ^^^ c) % 16)) % 16) := by
  unfold crcByte
  rw [nibble (s ^^^ c), nibble]
/-- CRC-32. -/
def crc (bs : List Nat) : Nat := 4294967295 - crcAll 4294967295 bs
end Go.Proofs.YtadipinnbehhhaaGreatDoor
namespace Go.Proofs.YtadipinnbehhhaaGreatDoor
open Go.RowKit

/-- The table of half bytes lies as its initialiser laid it. -/
def HalvesAt (w : World) : Prop := ∀ i, i < 16 → w.cell? ⟨11, i, none⟩ = some (.int .u32 (half i))
theorem u32_xor_nat (a b : Nat) (ha : a < 4294967296) (hb : b < 4294967296) : bits .xor .u32 (a : Int) (b : Int) = ((a ^^^ b : Nat) : Int) := by
  have hx : a ^^^ b < 2 ^ 32 := Nat.xor_lt_two_pow (by omega) (by omega)
  show IntKind.u32.wrap ((BitVec.ofInt 32 (a : Int) ^^^ BitVec.ofInt 32 (b : Int)).toNat : Int) = _
  rw [BitVec.toNat_xor, ofInt_u32 a ha, ofInt_u32 b hb, IntKind.wrap_u32']
  omega
theorem u32_low4 (a : Nat) (ha : a < 4294967296) : bits .and .u32 (a : Int) 15 = ((a % 16 : Nat) : Int) := by
  have h := u32_and_nat a 15 ha (by decide)
  have e : a &&& 15 = a % 16 := Nat.and_two_pow_sub_one_eq_mod a 4
  rw [e] at h
  exact h
theorem not32 (x : Nat) (hx : x < 4294967296) : 4294967295 ^^^ x = 4294967295 - x := by
  have h : BitVec.allOnes 32 ^^^ BitVec.ofNat 32 x = ~~~ (BitVec.ofNat 32 x) := BitVec.allOnes_xor
  have h2 := congrArg BitVec.toNat h
  rw [BitVec.toNat_xor, BitVec.toNat_not, BitVec.toNat_allOnes, BitVec.toNat_ofNat, Nat.mod_eq_of_lt (show x < 2 ^ 32 by omega)] at h2
  exact h2
set_option maxRecDepth 100000 in
set_option maxHeartbeats 2000000 in
theorem sum_any (g off cap : Nat) (bs : List Nat) (w : World) (hc : ∀ (j : Nat) (c : Nat), bs[j]? = some c → w.cell? ⟨g, off + j, none⟩ = some (.int .u8 c)) (h8 : ∀ c ∈ bs, c < 256) (hl : bs.length ≤ 9223372036854775807) (hh : HalvesAt w) :
    Calls Tryz.prog 272 #[.slice (some ⟨g, off, none⟩) bs.length cap] w fun e w' => e = .returned (.int .u32 (crc bs)) ∧ w' = w := by
  have HC := Hid.intro_ hc
  have H8 := Hid.intro_ h8
  have HH := Hid.intro_ hh
  clear hc h8 hh
  go_enter Tryz.func272, Tryz.ntmps272
  go_wp2
  go_loop [3, 8] (fun s i => ∃ k x : Nat, k ≤ bs.length ∧ i = .int .i64 k ∧ s = .int .u32 x ∧ x < 4294967296 ∧ x = crcAll 4294967295 (bs.take k)) (fun _ i => bs.length - (intOf i).toNat)
  case atStart => exact ⟨0, 4294967295, Nat.zero_le _, rfl, rfl, by decide, rfl⟩
  case round =>
    obtain ⟨k, x, hk, rfl, rfl, hx, hs⟩ := hrel
    have HS := Hid.intro_ hs
    clear hs
    by_cases hlt : k < bs.length
    · obtain ⟨c, hcc⟩ : ∃ c, bs[k]? = some c := ⟨_, List.getElem?_eq_getElem hlt⟩
      have c0 := HC.out k c hcc
      have hc8 := H8.out c (List.mem_of_getElem? hcc)
      have HCC := Hid.intro_ hcc
      clear hcc
      have e1 := u32_xor_nat x c hx (by omega)
      obtain ⟨y, hy⟩ : ∃ y, y = x ^^^ c := ⟨_, rfl⟩
      have hy32 : y < 4294967296 := by rw [hy]; exact Nat.xor_lt_two_pow (n := 32) (by omega) (by omega)
      rw [← hy] at e1
      have HY := Hid.intro_ hy
      clear hy
      have e2 := u32_low4 y hy32
      have t1 := HH.out (y % 16) (Nat.mod_lt _ (by decide))
      have e3 : bits .xor .u32 ((y : Int) / 16) ((half (y % 16) : Nat) : Int) = (((y / 16) ^^^ half (y % 16) : Nat) : Int) := u32_xor_nat (y / 16) (half (y % 16)) (by omega) (half_lt _ (Nat.mod_lt _ (by decide)))
      obtain ⟨z, hz⟩ : ∃ z, z = (y / 16) ^^^ half (y % 16) := ⟨_, rfl⟩
      have hz32 : z < 4294967296 := by rw [hz]; exact Nat.xor_lt_two_pow (n := 32) (by omega) (by have := half_lt (y % 16) (Nat.mod_lt _ (by decide)); omega)
      rw [← hz] at e3
      have HZ := Hid.intro_ hz
      clear hz
      have e4 := u32_low4 z hz32
      have t2 := HH.out (z % 16) (Nat.mod_lt _ (by decide))
      have e5 : bits .xor .u32 ((z : Int) / 16) ((half (z % 16) : Nat) : Int) = (((z / 16) ^^^ half (z % 16) : Nat) : Int) := u32_xor_nat (z / 16) (half (z % 16)) (by omega) (half_lt _ (Nat.mod_lt _ (by decide)))
      obtain ⟨v, hv⟩ : ∃ v, v = (z / 16) ^^^ half (z % 16) := ⟨_, rfl⟩
      have hv32 : v < 4294967296 := by rw [hv]; exact Nat.xor_lt_two_pow (n := 32) (by omega) (by have := half_lt (z % 16) (Nat.mod_lt _ (by decide)); omega)
      rw [← hv] at e5
      have hstep : v = crcAll 4294967295 (bs.take (k + 1)) := by
        rw [hv, HZ.out, HY.out, ← crcByte_nibbles, HS.out]
        have htk : bs.take (k + 1) = bs.take k ++ [c] := by
          rw [List.take_add_one, HCC.out]; rfl
        rw [htk]
        simp [crcAll]
      have HST := Hid.intro_ hstep
      clear hv hstep
      go_wp2
      go_round
      case rel => exact ⟨k + 1, v, by omega, by go_num, rfl, hv32, HST.out⟩
      case measure => simp [intOf]; omega
    · have hx2 : x = crcAll 4294967295 bs := by rw [HS.out, List.take_of_length_le (by omega)]
      have HX := Hid.intro_ hx2
      clear hx2
      go_wp2
      go_ret
      refine ⟨?_, rfl⟩
      have hm : IntKind.u32.max = ((4294967295 : Nat) : Int) := rfl
      have hn := u32_xor_nat 4294967295 x (by decide) hx
      rw [not32 x hx] at hn
      have hcr : crc bs = 4294967295 - x := by rw [HX.out]; rfl
      exact congrArg (fun z => Ending.returned (.int .u32 z)) (by rw [hm, hcr]; exact hn)
end Go.Proofs.YtadipinnbehhhaaGreatDoor
