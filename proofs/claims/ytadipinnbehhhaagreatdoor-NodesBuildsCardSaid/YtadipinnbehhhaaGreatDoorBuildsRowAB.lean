/- Disk: a call gets its number, and what befalls it. Disk: a numbered call: it is done, or a fault or a cut befalls it. Disk: a numbered call in one: what it answers, whatever befalls it. Disk: Create. Disk: Create, every way. Disk: one file turns, or goes. -/
import Derived.BigRegion
import Derived.Deep.RegionWith
import Derived.Test.YtadipinnbehhhaaGreatDoorBuildsRowAA
namespace Go.Proofs.YtadipinnbehhhaaGreatDoor
open Go.RowKit

def Tr.hits (t : Tr) (k : Int) : Bool := decide (t.at_ = k) && (decide (t.kind = 1) || decide (t.kind = 2))
/-- What befalls the next numbered call. -/
def DSt.hit (D : DSt) : Option Tr := D.trs.find? fun t => t.hits D.calls
def DSt.numbered (D : DSt) : DSt := { D with calls := wrap64 (D.calls + 1) }
def hitVal : Option Tr → Value
  | some t => .tuple #[.agg #[.int .i64 t.at_, .int .i64 t.kind, .int .i64 t.bytes], .bool true]
  | none => .tuple #[.agg #[.int .i64 0, .int .i64 0, .int .i64 0], .bool false]

theorem trCells_get : ∀ (l : List Tr) (k : Nat) (t : Tr), l[k]? = some t → (trCells l)[k * 3]? = some (.int .i64 t.at_) ∧ (trCells l)[k * 3 + 1]? = some (.int .i64 t.kind) ∧ (trCells l)[k * 3 + 2]? = some (.int .i64 t.bytes)
  | [], _, _, h => by simp at h
  | a :: l, 0, t, h => by
    simp only [List.getElem?_cons_zero, Option.some.injEq] at h
    subst h
    exact ⟨rfl, rfl, rfl⟩
  | a :: l, k + 1, t, h => by
    have ih := trCells_get l k t (by simpa using h)
    have e : trCells (a :: l) = .int .i64 a.at_ :: .int .i64 a.kind :: .int .i64 a.bytes :: trCells l := rfl
    rw [e]
    refine ⟨?_, ?_, ?_⟩
    · rw [show (k + 1) * 3 = k * 3 + 1 + 1 + 1 from by omega]; simpa using ih.1
    · rw [show (k + 1) * 3 + 1 = k * 3 + 1 + 1 + 1 + 1 from by omega]; simpa using ih.2.1
    · rw [show (k + 1) * 3 + 2 = k * 3 + 2 + 1 + 1 + 1 from by omega]; simpa using ih.2.2

theorem hit_none {l : List Tr} {c : Int} (h : ∀ (j : Nat) (t : Tr), l[j]? = some t → t.hits c = false) : l.find? (fun t => t.hits c) = none := by
  rw [List.find?_eq_none]
  intro t ht
  obtain ⟨j, hj⟩ := List.mem_iff_getElem?.1 ht
  simp [h j t hj]
theorem hit_some : ∀ {l : List Tr} {c : Int} {k : Nat} {t : Tr}, (∀ (j : Nat) (u : Tr), j < k → l[j]? = some u → u.hits c = false) → l[k]? = some t → t.hits c = true → l.find? (fun t => t.hits c) = some t
  | [], _, _, _, _, h, _ => by simp at h
  | a :: l, c, 0, t, _, h, ht => by
    simp only [List.getElem?_cons_zero, Option.some.injEq] at h
    subst h
    simp [ht]
  | a :: l, c, k + 1, t, hj, h, ht => by
    have h0 := hj 0 a (by omega) rfl
    simp only [List.find?_cons, h0]
    exact hit_some (k := k) (fun j u hlt hu => hj (j + 1) u (by omega) (by simpa using hu)) (by simpa using h) ht

set_option maxRecDepth 100000 in
set_option maxHeartbeats 1000000 in
theorem number_any (d : Nat) (D : DSt) (R : DRep) (F : Nat → Prop) (w : World) (h : DiskAt w F d D R) :
    Calls Tryz.prog 226 #[.pointer (some ⟨d, 0, none⟩)] w fun e w' => e = .returned (hitVal D.hit) ∧ DiskAt w' F d D.numbered R ∧ Keep (fun b => b = d) w w' := by
  have c5 : w.cell? ⟨d, 5, none⟩ = some (.int .i64 D.calls) := h.blk.at_ 5
  have f5 : w.frozen? ⟨d, 5, none⟩ = false := h.blk.fr 5
  have c4 : w.cell? ⟨d, 4, none⟩ = some (.slice (R.tb.map fun b => ⟨b, 0, none⟩) D.trs.length R.tc) := h.blk.at_ 4
  have hdl := h.blk.lt
  go_enter Tryz.func226, Tryz.ntmps226
  have hW : Keep (fun b => b = d) w ((w.setCell ⟨d, 5, none⟩ (.int .i64 (wrap64 (D.calls + 1)))).alloc (.cells #[.int .i64 0, .int .i64 0, .int .i64 0] 290)) := ((Keep.refl (fun b => b = d) w).setCell (p := ⟨d, 5, none⟩) (fun _ => rfl) _).alloc _
  have hres : Blk ((w.setCell ⟨d, 5, none⟩ (.int .i64 (wrap64 (D.calls + 1)))).alloc (.cells #[.int .i64 0, .int .i64 0, .int .i64 0] 290)) w.heap.size 290 #[.int .i64 0, .int .i64 0, .int .i64 0] := Blk.new_at _ _ _ (by simp [World.setCell])
  have hD1 : DiskAt ((w.setCell ⟨d, 5, none⟩ (.int .i64 (wrap64 (D.calls + 1)))).alloc (.cells #[.int .i64 0, .int .i64 0, .int .i64 0] 290)) F d D.numbered R := by
    refine DiskAt.turn (D' := D.numbered) h hW ?_ rfl rfl ?_
    · exact (Blk.set_ h.blk 5 _).alloc _
    · obtain ⟨a1, a2, a3, a4, a5, a6, a7, a8, a9, a10, a11⟩ := h.ok
      exact ⟨a1, a2, a3, a4, a5, a6, a7, a8, a9, a10, a11⟩
  have hlen : D.trs.length ≤ 9223372036854775807 := Nat.le_trans h.tcl (by have := h.tcm; simpa only [maxLen] using this)
  have htr := Hid.intro_ h.trs
  have hft := Hid.intro_ hD1.ftr
  go_wp2
  go_loopw [26] (fun n wr => ∃ k : Nat, k ≤ D.trs.length ∧ n = .int .i64 k ∧ Keep Nil ((w.setCell ⟨d, 5, none⟩ (.int .i64 (wrap64 (D.calls + 1)))).alloc (.cells #[.int .i64 0, .int .i64 0, .int .i64 0] 290)) wr ∧ Hid (∀ (j : Nat) (t : Tr), j < k → D.trs[j]? = some t → t.hits D.calls = false)) (fun n _ => D.trs.length - (intOf n).toNat)
  case atStart => exact ⟨0, Nat.zero_le _, rfl, Keep.refl _ _, fun j t hj => by omega⟩
  case round =>
    obtain ⟨k, hk, rfl, hkr, hno⟩ := hrel
    have hr := hres.keep hkr (fun h => h)
    have r0 : wr.cell? ⟨w.heap.size, 0, none⟩ = some (.int .i64 0) := hr.at_ 0
    have r1 : wr.cell? ⟨w.heap.size, 1, none⟩ = some (.int .i64 0) := hr.at_ 1
    have r2 : wr.cell? ⟨w.heap.size, 2, none⟩ = some (.int .i64 0) := hr.at_ 2
    have q0 : wr.frozen? ⟨w.heap.size, 0, none⟩ = false := hr.fr 0
    have q1 : wr.frozen? ⟨w.heap.size, 1, none⟩ = false := hr.fr 1
    have q2 : wr.frozen? ⟨w.heap.size, 2, none⟩ = false := hr.fr 2
    have hlt2 := hr.lt
    by_cases hlt : k < D.trs.length
    · obtain ⟨t, ht⟩ : ∃ t, D.trs[k]? = some t := ⟨_, List.getElem?_eq_getElem hlt⟩
      obtain ⟨g0, g1, g2⟩ := trCells_get D.trs k t ht
      obtain ⟨b, hb, x0⟩ := htr.out _ _ g0
      obtain ⟨b1, hb1, x1⟩ := htr.out _ _ g1
      obtain ⟨b2, hb2, x2⟩ := htr.out _ _ g2
      have hbb1 : b1 = b := by rw [hb] at hb1; injection hb1 with hb1; exact hb1.symm
      have hbb2 : b2 = b := by rw [hb] at hb2; injection hb2 with hb2; exact hb2.symm
      rw [hbb1] at x1
      rw [hbb2] at x2
      have hnd := h.trne b hb
      have y0 : wr.cell? ⟨b, k * 3, none⟩ = some (.int .i64 t.at_) := cell_keep (cell_keep x0 hW hnd) hkr (fun h => h)
      have y1 : wr.cell? ⟨b, k * 3 + 1, none⟩ = some (.int .i64 t.kind) := cell_keep (cell_keep x1 hW hnd) hkr (fun h => h)
      have y2 : wr.cell? ⟨b, k * 3 + 2, none⟩ = some (.int .i64 t.bytes) := cell_keep (cell_keep x2 hW hnd) hkr (fun h => h)
      have hTA : Option.map (fun b => (⟨b, 0, none⟩ : Addr)) R.tb = some ⟨b, 0, none⟩ := by rw [hb]; rfl
      clear hb hb1 hb2 hbb1 hbb2 x0 x1 x2 g0 g1 g2 hnd c4
      have HT := Hid.intro_ ht
      clear ht
      cases hh : t.hits D.calls
      · have HH := Hid.intro_ hh
        have hcase : ((t.at_ == D.calls) = false) ∨ ((t.at_ == D.calls) = true ∧ (t.kind == 1) = false ∧ (t.kind == 2) = false) := by
          simp only [Tr.hits, Bool.and_eq_false_iff, Bool.or_eq_false_iff, decide_eq_false_iff_not] at hh
          rcases hh with hh | ⟨ha, hb⟩
          · exact .inl (by simpa using hh)
          · by_cases hq : t.at_ = D.calls
            · exact .inr ⟨by simpa using hq, by simpa using ha, by simpa using hb⟩
            · exact .inl (by simpa using hq)
        clear hh
        rcases hcase with ha | ⟨ha, hb2, hb3⟩
        all_goals
          go_wp2
          go_roundw
          case rel => exact ⟨k + 1, by omega, by go_num, hkr.alloc _, fun j u hj hu => by
            by_cases hjk : j = k
            · subst hjk; have := HT.out; rw [hu] at this; injection this with this; rw [this]; exact HH.out
            · exact hno.out j u (by omega) hu⟩
          case measure => simp [intOf]; omega
      · have HH := Hid.intro_ hh
        have hcase : (t.at_ == D.calls) = true ∧ ((t.kind == 1) = true ∨ ((t.kind == 1) = false ∧ (t.kind == 2) = true)) := by
          simp only [Tr.hits, Bool.and_eq_true, Bool.or_eq_true, decide_eq_true_eq] at hh
          refine ⟨by simpa using hh.1, ?_⟩
          by_cases hq : t.kind = 1
          · exact .inl (by simpa using hq)
          · exact .inr ⟨by simpa using hq, by simpa using hh.2.resolve_left hq⟩
        clear hh
        have hfin : D.hit = some t := hit_some hno.out HT.out HH.out
        have HF := Hid.intro_ hfin
        clear hfin
        obtain ⟨ha, hb1 | ⟨hb1, hb2⟩⟩ := hcase
        all_goals
          go_wp2
          have hB3 := (Blk.set_ (Blk.set_ (Blk.set_ hr 0 (.int .i64 t.at_)) 1 (.int .i64 t.kind)) 2 (.int .i64 t.bytes)).alloc (.cells #[.int .i64 t.at_, .int .i64 t.kind, .int .i64 t.bytes] 290)
          have z0 := hB3.at_ 0
          have z1 := hB3.at_ 1
          have z2 := hB3.at_ 2
          refine bodyPost_ret (v := .tuple #[.agg #[.int .i64 t.at_, .int .i64 t.kind, .int .i64 t.bytes], .bool true]) (by simp [results, Tryz.results226, go_sem, z0, z1, z2]) rfl ⟨by rw [HF.out]; rfl, ?_, ?_⟩
          · exact (hD1.nil hkr).keep ((((Keep.refl (fun b => b = w.heap.size) wr).setCell (p := ⟨w.heap.size, 0, none⟩) (fun _ => rfl) _).setCell (p := ⟨w.heap.size, 1, none⟩) (fun _ => rfl) _).setCell (p := ⟨w.heap.size, 2, none⟩) (fun _ => rfl) _ |>.alloc _) (fun b hb e => by have := h.lt b hb; omega)
          · exact ((((hW.trans hkr (fun _ _ h => h.elim)).setCell (p := ⟨w.heap.size, 0, none⟩) (fun h => absurd h (Nat.lt_irrefl _)) _).setCell (p := ⟨w.heap.size, 1, none⟩) (fun h => absurd h (Nat.lt_irrefl _)) _).setCell (p := ⟨w.heap.size, 2, none⟩) (fun h => absurd h (Nat.lt_irrefl _)) _).alloc _
    · have hfin : D.hit = none := hit_none (fun j t hj => hno.out j t (by have := (List.getElem?_eq_some_iff.1 hj).1; omega) hj)
      have HF := Hid.intro_ hfin
      clear hfin
      go_wp2
      have hB3 := (Blk.set_ (Blk.set_ (Blk.set_ hr 0 (.int .i64 0)) 1 (.int .i64 0)) 2 (.int .i64 0))
      have z0 := hB3.at_ 0
      have z1 := hB3.at_ 1
      have z2 := hB3.at_ 2
      refine bodyPost_ret (v := .tuple #[.agg #[.int .i64 0, .int .i64 0, .int .i64 0], .bool false]) (by simp [results, Tryz.results226, go_sem, z0, z1, z2]) rfl ⟨by rw [HF.out]; rfl, ?_, ?_⟩
      · exact (hD1.nil hkr).keep ((((Keep.refl (fun b => b = w.heap.size) wr).setCell (p := ⟨w.heap.size, 0, none⟩) (fun _ => rfl) _).setCell (p := ⟨w.heap.size, 1, none⟩) (fun _ => rfl) _).setCell (p := ⟨w.heap.size, 2, none⟩) (fun _ => rfl) _) (fun b hb e => by have := h.lt b hb; omega)
      · exact (((hW.trans hkr (fun _ _ h => h.elim)).setCell (p := ⟨w.heap.size, 0, none⟩) (fun h => absurd h (Nat.lt_irrefl _)) _).setCell (p := ⟨w.heap.size, 1, none⟩) (fun h => absurd h (Nat.lt_irrefl _)) _).setCell (p := ⟨w.heap.size, 2, none⟩) (fun h => absurd h (Nat.lt_irrefl _)) _
end Go.Proofs.YtadipinnbehhhaaGreatDoor
namespace Go.Proofs.YtadipinnbehhhaaGreatDoor
open Go.RowKit

inductive Fate where
  | done
  | fault
  | cut (n : Int)
/-- What becomes of the next numbered call. -/
def DSt.fate (D : DSt) (fails : Bool) : Fate := match D.hit with
  | none => .done
  | some t => if t.kind = 1 then (if fails then .fault else .done) else .cut t.bytes

theorem hit_kind {D : DSt} {t : Tr} (h : D.hit = some t) : t.kind = 1 ∨ t.kind = 2 := by
  have := List.find?_some h
  simp [Tr.hits] at this
  exact this.2

theorem number_none (d : Nat) (D : DSt) (R : DRep) (F : Nat → Prop) (w : World) (h : DiskAt w F d D R) (hh : D.hit = none) :
    Calls Tryz.prog 226 #[.pointer (some ⟨d, 0, none⟩)] w fun e w' => e = .returned (.tuple #[.agg #[.int .i64 0, .int .i64 0, .int .i64 0], .bool false]) ∧ DiskAt w' F d D.numbered R ∧ Keep (fun b => b = d) w w' := by
  have := number_any d D R F w h
  rw [hh] at this
  exact this
theorem number_some (d : Nat) (D : DSt) (R : DRep) (F : Nat → Prop) (t : Tr) (w : World) (h : DiskAt w F d D R) (hh : D.hit = some t) :
    Calls Tryz.prog 226 #[.pointer (some ⟨d, 0, none⟩)] w fun e w' => e = .returned (.tuple #[.agg #[.int .i64 t.at_, .int .i64 t.kind, .int .i64 t.bytes], .bool true]) ∧ DiskAt w' F d D.numbered R ∧ Keep (fun b => b = d) w w' := by
  have := number_any d D R F w h
  rw [hh] at this
  exact this

set_option maxRecDepth 100000 in
set_option maxHeartbeats 1000000 in
theorem act_done (d : Nat) (D : DSt) (R : DRep) (F : Nat → Prop) (fails : Bool) (fd fp : FuncId) (cd cp : Array Value) (Q : World → Prop) (w : World) (h : DiskAt w F d D R) (hf : D.fate fails = .done)
    (hcf : ∀ w, (callFunc fd cd).run Tryz.prog w = .ok (.enter fd cd) w)
    (hd : ∀ w1, DiskAt w1 F d D.numbered R → Keep (fun b => b = d) w w1 → Calls Tryz.prog fd cd w1 fun e w2 => e = .returned (.tuple #[]) ∧ Q w2) :
    Calls Tryz.prog 188 #[.pointer (some ⟨d, 0, none⟩), .bool fails, .func (.func fd) #[] cd, .func (.func fp) #[] cp] w fun e w' => e = .returned .nilIface ∧ Q w' := by
  have HD := Hid.intro_ hd
  clear hd
  cases hh : D.hit with
  | none =>
    clear hf
    have HH := Hid.intro_ hh
    clear hh
    go_enter Tryz.func188, Tryz.ntmps188
    go_wp2_with (go_at_call 226; refine (number_none d D R F _ h HH.out).mono ?_; rintro e w1 ⟨rfl, hD1, hk1⟩)
    refine (HD.out _ (hD1.nil ((Keep.refl _ _).alloc _)) (hk1.alloc _)).mono ?_
    rintro e w2 ⟨rfl, hq⟩
    go_wp2
    go_ret
    exact ⟨rfl, hq⟩
  | some t =>
    have hk := hit_kind hh
    have h1 : t.kind = 1 ∧ fails = false := by
      simp only [DSt.fate, hh] at hf
      rcases hk with hk | hk
      · rw [if_pos hk] at hf
        cases hq : fails
        · exact ⟨hk, rfl⟩
        · rw [hq] at hf; simp at hf
      · rw [if_neg (by omega)] at hf; cases hf
    obtain ⟨hk1, rfl⟩ := h1
    have HH := Hid.intro_ hh
    have e1 : (t.kind == 1) = true := by simpa using hk1
    have e2 : (t.kind == 2) = false := by simp [hk1]
    clear hh hk hk1 hf
    go_enter Tryz.func188, Tryz.ntmps188
    go_wp2_with (go_at_call 226; refine (number_some d D R F t _ h HH.out).mono ?_; rintro e w1 ⟨rfl, hD1, hk1⟩)
    refine (HD.out _ (hD1.nil ((Keep.refl _ _).alloc _)) (hk1.alloc _)).mono ?_
    rintro e w2 ⟨rfl, hq⟩
    go_wp2
    go_ret
    exact ⟨rfl, hq⟩

def DSt.faulted (D : DSt) : DSt := { D.numbered with faults := wrap64 (D.faults + 1) }

set_option maxRecDepth 100000 in
set_option maxHeartbeats 1000000 in
theorem act_fault (d : Nat) (D : DSt) (R : DRep) (F : Nat → Prop) (E : Nat → Addr) (fd fp : FuncId) (cd cp : Array Value) (w : World) (h : DiskAt w F d D R) (he : Env w F E) (hf : D.fate true = .fault) :
    Calls Tryz.prog 188 #[.pointer (some ⟨d, 0, none⟩), .bool true, .func (.func fd) #[] cd, .func (.func fp) #[] cp] w fun e w' =>
      e = .returned (.iface 421 (.pointer (some (E 8)))) ∧ DiskAt w' F d D.faulted R ∧ Keep (fun b => b = d) w w' := by
  cases hh : D.hit with
  | none => simp [DSt.fate, hh] at hf
  | some t =>
    have h1 : t.kind = 1 := by
      simp only [DSt.fate, hh] at hf
      by_cases q : t.kind = 1
      · exact q
      · rw [if_neg q] at hf; cases hf
    have HH := Hid.intro_ hh
    have e1 : (t.kind == 1) = true := by simpa using h1
    clear hh h1 hf
    go_enter Tryz.func188, Tryz.ntmps188
    go_wp2_with (go_at_call 226; refine (number_some d D R F t _ h HH.out).mono ?_; rintro e w1 ⟨rfl, hD1, hk1⟩
                 have c8 : w1.cell? ⟨d, 8, none⟩ = some (.int .i64 D.faults) := hD1.blk.at_ 8
                 have f8 : w1.frozen? ⟨d, 8, none⟩ = false := hD1.blk.fr 8
                 have hdl := hD1.blk.lt
                 have v8 : w1.cell? ⟨3, 0, none⟩ = some (.iface 421 (.pointer (some (E 8)))) := cell_keep (he.errs.var 8 (by decide)) hk1 (fun e => he.nv 8 (by decide) (by rw [show errVar 8 = d from e]; exact h.fd))
                 have nv8 : ¬ d = 3 := fun e => he.nv 8 (by decide) (by rw [show errVar 8 = d from e.symm]; exact h.fd)
                 have nv8' : ¬ 3 = d := fun e => nv8 e.symm
                 have l8 : 3 < w1.heap.size := cell_lt v8)
    go_ret
    have hk8 := (Keep.refl (fun b => b = d) w1).setCell (p := ⟨d, 8, none⟩) (fun _ => rfl) (.int .i64 (wrap64 (D.faults + 1)))
    refine ⟨rfl, ?_, (hk1.then_ hk8).alloc _⟩
    refine DiskAt.nil ?_ ((Keep.refl Nil _).alloc _)
    refine DiskAt.turn (D' := D.faulted) hD1 hk8 (Blk.set_ hD1.blk 8 _) rfl rfl ?_
    obtain ⟨a1, a2, a3, a4, a5, a6, a7, a8, a9, a10, a11⟩ := hD1.ok
    exact ⟨a1, a2, a3, a4, a5, a6, a7, a8, a9, a10, a11⟩

/-- The power goes off. -/
def DSt.cutOff (D : DSt) : DSt := { D with on := false }

set_option maxRecDepth 100000 in
set_option maxHeartbeats 1000000 in
theorem act_cut (d : Nat) (D : DSt) (R : DRep) (F : Nat → Prop) (E : Nat → Addr) (fails : Bool) (n : Int) (fd fp : FuncId) (cd cp : Array Value) (D2 : DSt) (w : World) (h : DiskAt w F d D R) (he : Env w F E) (hf : D.fate fails = .cut n)
    (hcf : ∀ w, (callFunc fp (#[.int .i64 n] ++ cp)).run Tryz.prog w = .ok (.enter fp (#[.int .i64 n] ++ cp)) w)
    (hd : ∀ w1, DiskAt w1 F d D.numbered R → Keep (fun b => b = d) w w1 → Calls Tryz.prog fp (#[.int .i64 n] ++ cp) w1 fun e w2 => e = .returned (.tuple #[]) ∧ ∃ F2 R2, DiskAt w2 F2 d D2 R2 ∧ Stp w1 F w2 F2) :
    Calls Tryz.prog 188 #[.pointer (some ⟨d, 0, none⟩), .bool fails, .func (.func fd) #[] cd, .func (.func fp) #[] cp] w fun e w' =>
      e = .returned (.iface 421 (.pointer (some (E 0)))) ∧ ∃ F2 R2, DiskAt w' F2 d D2.cutOff R2 ∧ Stp w F w' F2 := by
  have HD := Hid.intro_ hd
  clear hd
  cases hh : D.hit with
  | none => simp [DSt.fate, hh] at hf
  | some t =>
    have hk := hit_kind hh
    have h1 : t.kind = 2 ∧ t.bytes = n := by
      simp only [DSt.fate, hh] at hf
      by_cases q : t.kind = 1
      · rw [if_pos q] at hf; cases fails <;> simp at hf
      · rw [if_neg q] at hf
        injection hf with hf
        exact ⟨by omega, hf⟩
    obtain ⟨h1, rfl⟩ := h1
    have HH := Hid.intro_ hh
    have e1 : (t.kind == 1) = false := by simp [h1]
    have e2 : (t.kind == 2) = true := by simpa using h1
    clear hh h1 hf hk
    go_enter Tryz.func188, Tryz.ntmps188
    go_wp2_with (go_at_call 226; refine (number_some d D R F t _ h HH.out).mono ?_; rintro e w1 ⟨rfl, hD1, hk1⟩)
    refine (HD.out _ (hD1.nil ((Keep.refl _ _).alloc _)) (hk1.alloc _)).mono ?_
    rintro e w2 ⟨rfl, F2, R2, hD2, hs2⟩
    have hs : Stp w F w2 F2 := Stp.trans (w' := w1.alloc (.cells #[.int .i64 t.at_, .int .i64 t.kind, .int .i64 t.bytes] 290)) (F' := F) ⟨(hk1.alloc _).mono (fun b _ e => by rw [show b = d from e]; exact h.fd), fun b hb => .inl hb⟩ hs2
    have hE2 := he.step hs
    have c0 : w2.cell? ⟨d, 0, none⟩ = some (.bool D2.on) := hD2.blk.at_ 0
    have f0 : w2.frozen? ⟨d, 0, none⟩ = false := hD2.blk.fr 0
    have v0 : w2.cell? ⟨0, 0, none⟩ = some (.iface 421 (.pointer (some (E 0)))) := hE2.errs.var 0 (by decide)
    have nv0 : ¬ d = 0 := fun e => hE2.nv 0 (by decide) (by rw [show errVar 0 = d from e.symm]; exact hD2.fd)
    have nv0' : ¬ 0 = d := fun e => nv0 e.symm
    go_wp2
    go_ret
    have hk0 := (Keep.refl (fun b => b = d) w2).setCell (p := ⟨d, 0, none⟩) (fun _ => rfl) (.bool false)
    refine ⟨rfl, F2, R2, ?_, hs.trans ⟨hk0.mono (fun b _ e => by rw [show b = d from e]; exact hD2.fd), fun b hb => .inl hb⟩⟩
    refine DiskAt.turn (D' := D2.cutOff) hD2 hk0 (Blk.set_ hD2.blk 0 _) rfl rfl ?_
    obtain ⟨a1, a2, a3, a4, a5, a6, a7, a8, a9, a10, a11⟩ := hD2.ok
    exact ⟨a1, a2, a3, a4, a5, a6, a7, a8, a9, a10, a11⟩
end Go.Proofs.YtadipinnbehhhaaGreatDoor
namespace Go.Proofs.YtadipinnbehhhaaGreatDoor
open Go.RowKit

/-- An error of the disk, or none, and its number. -/
def ErrV (E : Nat → Addr) (v : Value) (n : Int) : Prop := (v = .nilIface ∧ n = 0) ∨ ∃ k, k < 9 ∧ v = .iface 421 (.pointer (some (E k))) ∧ n = errNo k

theorem told_v (E : Nat → Addr) (v : Value) (n : Int) (w : World) (hv : ErrV E v n) (h : ErrsAt w E) :
    Calls Tryz.prog 186 #[v] w fun e w' => e = .returned (.int .i64 n) ∧ Keep Nil w w' := by
  rcases hv with ⟨rfl, rfl⟩ | ⟨k, hk, rfl, rfl⟩
  · exact (told_nil w).mono fun e w' ⟨he, hw⟩ => ⟨he, by subst hw; exact Keep.refl _ _⟩
  · exact told_sent E k w hk h

/-- What a numbered call comes to: the disk behind it, and its number. -/
def DSt.outcome (D : DSt) (fails : Bool) (dn : DSt → DSt) (pt : Int → DSt → DSt) : DSt × Int :=
  match D.fate fails with
  | .done => (dn D.numbered, 0)
  | .fault => (D.faulted, 9)
  | .cut n => ((pt n D.numbered).cutOff, 10)

/-- The disk is D' now. -/
def DiskTo (d : Nat) (F : Nat → Prop) (D' : DSt) (w w' : World) : Prop := ∃ F' R', DiskAt w' F' d D' R' ∧ Stp w F w' F'

theorem DiskTo.of_keep {d : Nat} {F : Nat → Prop} {D' : DSt} {R : DRep} {w w' : World} (h : DiskAt w' F d D' R) (k : Keep (fun b => b = d) w w') : DiskTo d F D' w w' :=
  ⟨F, R, h, k.mono (fun b _ e => by rw [show b = d from e]; exact h.fd), fun b hb => .inl hb⟩
theorem DiskTo.nil {d : Nat} {F : Nat → Prop} {D' : DSt} {w w' w2 : World} (h : DiskTo d F D' w w') (k : Keep Nil w' w2) : DiskTo d F D' w w2 := by
  obtain ⟨F', R', h1, h2⟩ := h
  exact ⟨F', R', h1.nil k, h2.then_nil k⟩
theorem DiskTo.from_nil {d : Nat} {F : Nat → Prop} {D' : DSt} {w w' w2 : World} (h : DiskTo d F D' w' w2) (k : Keep Nil w w') : DiskTo d F D' w w2 := by
  obtain ⟨F', R', h1, h2⟩ := h
  exact ⟨F', R', h1, (Stp.of_nil k F).trans h2⟩
theorem DiskTo.env {d : Nat} {F : Nat → Prop} {D' : DSt} {w w' : World} {E : Nat → Addr} (h : DiskTo d F D' w w') (he : Env w F E) : ErrsAt w' E := by
  obtain ⟨F', R', h1, h2⟩ := h
  exact (he.step h2).errs

theorem act_v (d : Nat) (D : DSt) (R : DRep) (F : Nat → Prop) (E : Nat → Addr) (fails : Bool) (fd fp : FuncId) (cd cp : Array Value) (dn : DSt → DSt) (pt : Int → DSt → DSt) (w : World) (h : DiskAt w F d D R) (he : Env w F E)
    (hcf : ∀ w, (callFunc fd cd).run Tryz.prog w = .ok (.enter fd cd) w)
    (hcp : ∀ n w, (callFunc fp (#[.int .i64 n] ++ cp)).run Tryz.prog w = .ok (.enter fp (#[.int .i64 n] ++ cp)) w)
    (hd : ∀ w1, DiskAt w1 F d D.numbered R → Keep (fun b => b = d) w w1 → Calls Tryz.prog fd cd w1 fun e w2 => e = .returned (.tuple #[]) ∧ DiskTo d F (dn D.numbered) w1 w2)
    (hp : ∀ n w1, DiskAt w1 F d D.numbered R → Keep (fun b => b = d) w w1 → Calls Tryz.prog fp (#[.int .i64 n] ++ cp) w1 fun e w2 => e = .returned (.tuple #[]) ∧ DiskTo d F (pt n D.numbered) w1 w2) :
    Calls Tryz.prog 188 #[.pointer (some ⟨d, 0, none⟩), .bool fails, .func (.func fd) #[] cd, .func (.func fp) #[] cp] w fun e w' =>
      ∃ v, e = .returned v ∧ ErrV E v (D.outcome fails dn pt).2 ∧ DiskTo d F (D.outcome fails dn pt).1 w w' := by
  unfold DSt.outcome
  cases hf : D.fate fails with
  | done =>
    refine (act_done d D R F fails fd fp cd cp (fun w2 => DiskTo d F (dn D.numbered) w w2) w h hf hcf (fun w1 h1 k1 => (hd w1 h1 k1).mono fun e w2 ⟨he2, F2, R2, h2, s2⟩ => ⟨he2, F2, R2, h2, ?_⟩)).mono fun e w' ⟨he2, hq⟩ => ⟨_, he2, .inl ⟨rfl, rfl⟩, hq⟩
    exact Stp.trans (F' := F) ⟨k1.mono (fun b _ e => by rw [show b = d from e]; exact h.fd), fun b hb => .inl hb⟩ s2
  | fault =>
    have hft : fails = true := by
      cases fails
      · unfold DSt.fate at hf
        cases hh : D.hit with
        | none => simp [hh] at hf
        | some t => simp only [hh] at hf; split at hf <;> simp at hf
      · rfl
    subst hft
    exact (act_fault d D R F E fd fp cd cp w h he hf).mono fun e w' ⟨he2, h2, k2⟩ => ⟨_, he2, .inr ⟨8, by decide, rfl, rfl⟩, DiskTo.of_keep h2 k2⟩
  | cut n =>
    exact (act_cut d D R F E fails n fd fp cd cp (pt n D.numbered) w h he hf (hcp n) (hp n)).mono fun e w' ⟨he2, hq⟩ => ⟨_, he2, .inr ⟨0, by decide, rfl, rfl⟩, hq⟩

set_option maxHeartbeats 400000 in
theorem whole_any (v : Value) (w : World) (hv : ∃ fd cd, v = .func (.func fd) #[] cd) :
    Calls Tryz.prog 189 #[v] w fun e w' => e = .returned (.func (.func 227) #[] #[.pointer (some ⟨w.heap.size, 0, none⟩)]) ∧ w' = w.alloc (.cells #[v] 1) := by
  obtain ⟨fd, cd, rfl⟩ := hv
  have hmf : ∀ (fn : Fn) (first cap : Array Value) (w : World), (Instr.makeFunc fn first cap).run Tryz.prog w = .ok (.func fn first cap) w := fun _ _ _ _ => rfl
  go_enter Tryz.func189, Tryz.ntmps189
  go_wp2
  go_ret
  exact ⟨rfl, rfl⟩

set_option maxHeartbeats 400000 in
theorem whole_none (n : Int) (b : Nat) (w : World) (hn : n ≤ 0) :
    Calls Tryz.prog 227 #[.int .i64 n, .pointer (some ⟨b, 0, none⟩)] w fun e w' => e = .returned (.tuple #[]) ∧ w' = w := by
  go_enter Tryz.func227, Tryz.ntmps227
  go_wp2
  go_end0
  exact ⟨rfl, rfl⟩
set_option maxHeartbeats 400000 in
theorem whole_do (n : Int) (b : Nat) (fd : FuncId) (cd : Array Value) (Q : World → Prop) (w : World) (hn : 0 < n) (hc : w.cell? ⟨b, 0, none⟩ = some (.func (.func fd) #[] cd))
    (hcf : ∀ w, (callFunc fd cd).run Tryz.prog w = .ok (.enter fd cd) w) (hd : Calls Tryz.prog fd cd w fun e w2 => e = .returned (.tuple #[]) ∧ Q w2) :
    Calls Tryz.prog 227 #[.int .i64 n, .pointer (some ⟨b, 0, none⟩)] w fun e w' => e = .returned (.tuple #[]) ∧ Q w' := by
  have HD := Hid.intro_ hd
  clear hd
  go_enter Tryz.func227, Tryz.ntmps227
  go_wp2
  refine HD.out.mono ?_
  rintro e w2 ⟨rfl, hq⟩
  go_wp2
  go_end0
  exact ⟨rfl, hq⟩
theorem whole_enters (n : Int) (b : Nat) (w : World) : (callFunc 227 (#[.int .i64 n] ++ #[.pointer (some ⟨b, 0, none⟩)])).run Tryz.prog w = .ok (.enter 227 (#[.int .i64 n] ++ #[.pointer (some ⟨b, 0, none⟩)])) w := by
  kernel_rfl

/-- A cut call: all of it, or nothing. -/
def partOf (dn : DSt → DSt) (n : Int) (D : DSt) : DSt := if 0 < n then dn D else D

theorem act_whole (d b : Nat) (D : DSt) (R : DRep) (F : Nat → Prop) (E : Nat → Addr) (fails : Bool) (fd : FuncId) (cd : Array Value) (dn : DSt → DSt) (w : World) (h : DiskAt w F d D R) (he : Env w F E)
    (hcf : ∀ w, (callFunc fd cd).run Tryz.prog w = .ok (.enter fd cd) w) (hb : w.cell? ⟨b, 0, none⟩ = some (.func (.func fd) #[] cd)) (hbd : b ≠ d)
    (hd : ∀ w1, DiskAt w1 F d D.numbered R → Keep (fun b => b = d) w w1 → Calls Tryz.prog fd cd w1 fun e w2 => e = .returned (.tuple #[]) ∧ DiskTo d F (dn D.numbered) w1 w2) :
    Calls Tryz.prog 188 #[.pointer (some ⟨d, 0, none⟩), .bool fails, .func (.func fd) #[] cd, .func (.func 227) #[] #[.pointer (some ⟨b, 0, none⟩)]] w fun e w' =>
      ∃ v, e = .returned v ∧ ErrV E v (D.outcome fails dn (partOf dn)).2 ∧ DiskTo d F (D.outcome fails dn (partOf dn)).1 w w' :=
  act_v d D R F E fails fd _ cd _ dn (partOf dn) w h he hcf (fun n w => whole_enters n b w) hd fun n w1 h1 k1 => by
    unfold partOf
    by_cases hn : 0 < n
    · rw [if_pos hn]
      exact whole_do n b fd cd _ w1 hn (cell_keep hb k1 hbd) hcf (hd w1 h1 k1)
    · rw [if_neg hn]
      exact (whole_none n b w1 (by omega)).mono fun e w2 ⟨he2, hw⟩ => ⟨he2, by subst hw; exact ⟨F, R, h1, Stp.refl _ _⟩⟩
end Go.Proofs.YtadipinnbehhhaaGreatDoor
namespace Go.Proofs.YtadipinnbehhhaaGreatDoor
open Go.RowKit

def DSt.made (D : DSt) (s : ByteArray) : DSt := { D with files := D.files ++ [(s, { done := false, blocks := [] })] }

theorem fpos_none_mem {s : ByteArray} : ∀ {fs : List (ByteArray × AFile)}, fpos s fs = none → s ∉ fs.map (·.1)
  | [], _ => by simp
  | (k, f) :: r, h => by
    by_cases q : s = k
    · subst q; simp [fpos] at h
    · simp only [fpos, q, if_false, Option.map_eq_none_iff] at h
      simp only [List.map_cons, List.mem_cons, not_or]
      exact ⟨q, fpos_none_mem h⟩

theorem zipWith_append_one {α β γ : Type} (f : α → β → γ) (a : α) (b : β) : ∀ (l : List α) (r : List β), r.length = l.length → List.zipWith f (l ++ [a]) (r ++ [b]) = List.zipWith f l r ++ [f a b]
  | [], [], _ => rfl
  | [], _ :: _, h => by simp at h
  | _ :: _, [], h => by simp at h
  | x :: l, y :: r, h => by
    simp only [List.cons_append, List.zipWith_cons_cons, List.cons.injEq, true_and]
    exact zipWith_append_one f a b l r (by simpa using h)

theorem total_append (a b : List (ByteArray × AFile)) : total (a ++ b) = total a + total b := by simp [total]

/-- A disk with one file more. -/
theorem DiskAt.push {w w2 : World} {F : Nat → Prop} {d g : Nat} {D : DSt} {R : DRep} {s : ByteArray} (h : DiskAt w F d D R) (hn : fpos s D.files = none) (hk : Keep (fun b => b = R.mb) w w2) (hg : w.heap.size ≤ g)
    (hm : MapAt w2 R.mb (links D.files R.reps ++ [(s, .pointer (some ⟨g, 0, none⟩))])) (hb : Blk w2 g 160 #[.int .i64 0, .slice none 0 0]) :
    DiskAt w2 (fun b => F b ∨ b = g) d (D.made s) { R with reps := R.reps ++ [(g, .slice none 0 0)] } := {
  blk := h.blk.keep hk (Ne.symm (h.map.ne h.blk))
  fd := .inl h.fd
  fm := .inl h.fm
  map := by
    have : links (D.made s).files (R.reps ++ [(g, .slice none 0 0)]) = links D.files R.reps ++ [(s, .pointer (some ⟨g, 0, none⟩))] := zipWith_append_one _ _ _ _ _ h.len
    rw [this]
    exact hm
  len := by simp [DSt.made, h.len]
  fbs := by
    rw [List.map_append, List.nodup_append]
    refine ⟨h.fbs, by simp, fun a ha b hb2 => ?_⟩
    simp only [List.map_cons, List.map_nil, List.mem_singleton] at hb2
    subst hb2
    rintro rfl
    obtain ⟨r, hr, e⟩ := List.mem_map.1 ha
    obtain ⟨i, hi⟩ := List.mem_iff_getElem?.1 hr
    have hl : i < D.files.length := by rw [← h.len]; exact (List.getElem?_eq_some_iff.1 hi).1
    have := h.lt _ (h.file i _ r (List.getElem?_eq_getElem hl) hi).inF
    omega
  file := fun i f r hf hr => by
    simp only [DSt.made] at hf
    by_cases hi : i < D.files.length
    · rw [List.getElem?_append_left hi] at hf
      rw [List.getElem?_append_left (by rw [h.len]; exact hi)] at hr
      have q := h.file i f r hf hr
      refine (q.keep hk (Ne.symm (h.map.ne q.blk)) (fun x hx => ?_) (fun b cs fr _ hc e => ?_)).mono (fun _ hb => .inl hb)
      · obtain ⟨vs, g3, _, _⟩ := q.row
        intro e
        rcases g3.2 with ⟨e1, _⟩ | ⟨g', cap, cur, e1, _, hh, _⟩
        · rw [e1] at hx; simp [Value.ownBlock] at hx
        · rw [e1] at hx
          have e2 : g' = x := by simpa [Value.ownBlock] using hx
          exact h.map.ne (show Blk w g' _ cur from hh) (by rw [e2]; exact e.symm)
      · subst e
        obtain ⟨es, cl, h1, _⟩ := h.map
        rw [h1] at hc
        cases hc
    · have hl : D.files.length ≤ i := by omega
      rw [List.getElem?_append_right hl] at hf
      rw [List.getElem?_append_right (by rw [h.len]; exact hl), h.len] at hr
      have h0 : i - D.files.length = 0 := by
        have := (List.getElem?_eq_some_iff.1 hf).1
        simp at this
        omega
      rw [h0] at hf hr
      simp only [List.getElem?_cons_zero, Option.some.injEq] at hf hr
      subst hf hr
      exact ⟨hb, .inr rfl, [], World.ownsRow_nil _ _ _ _, fun x hx => by simp [Value.ownBlock] at hx, fun j u bs hu => by simp at hu⟩
  row := fun i j r t x hr ht hx hy => by
    have key : ∀ (i : Nat) (r : Nat × Value) (x : Nat), (R.reps ++ [(g, .slice none 0 0)])[i]? = some r → r.2.ownBlock = some x → R.reps[i]? = some r := by
      intro i r x hr hx
      by_cases hi : i < R.reps.length
      · rwa [List.getElem?_append_left hi] at hr
      · rw [List.getElem?_append_right (by omega)] at hr
        have h0 : i - R.reps.length = 0 := by
          have := (List.getElem?_eq_some_iff.1 hr).1
          simp at this
          omega
        rw [h0] at hr
        simp only [List.getElem?_cons_zero, Option.some.injEq] at hr
        subst hr
        simp [Value.ownBlock] at hx
    exact h.row i j r t x (key i r x hr hx) (key j t x ht hy) hx hy
  trs := fun j u hu => by
    obtain ⟨b, e, hc⟩ := h.trs j u hu
    refine ⟨b, e, cell_keep hc hk (fun e2 => ?_)⟩
    obtain ⟨_, cs, fr, hbb⟩ := h.ftr b e
    obtain ⟨es, cl, h1, _⟩ := h.map
    rw [show b = R.mb from e2, h1] at hbb
    cases hbb
  ftr := fun b e => by
    obtain ⟨h0, cs, fr, hbb⟩ := h.ftr b e
    refine ⟨.inl h0, cs, fr, (hk.same _ (lt_of_heap hbb) (fun e2 => ?_)).trans hbb⟩
    obtain ⟨es, cl, h1, _⟩ := h.map
    rw [show b = R.mb from e2, h1] at hbb
    cases hbb
  tcl := h.tcl
  tcm := h.tcm
  lt := fun b hb2 => hb2.elim (fun hf => Nat.lt_of_lt_of_le (h.lt b hf) hk.size) (fun e => by subst e; exact hb.lt)
  ok := by
    obtain ⟨a1, a2, a3, a4, a5, a6, a7, a8, a9, a10, a11⟩ := h.ok
    refine ⟨a1, a2, a3, a4, ?_, a6, a7, a8, fun f hf b hb2 => ?_, fun f hf b hb2 => ?_, ?_⟩
    · simp only [DSt.made, total_append]
      simpa [total] using a5
    · rcases List.mem_append.1 hf with hf | hf
      · exact a9 f hf b hb2
      · simp only [List.mem_singleton] at hf
        subst hf
        simp at hb2
    · rcases List.mem_append.1 hf with hf | hf
      · exact a10 f hf b hb2
      · simp only [List.mem_singleton] at hf
        subst hf
        simp at hb2
    · simp only [DSt.made, List.map_append, List.map_cons, List.map_nil]
      rw [List.nodup_append]
      refine ⟨a11, by simp, fun a ha b hb2 => ?_⟩
      simp only [List.mem_singleton] at hb2
      subst hb2
      rintro rfl
      exact fpos_none_mem hn ha }

set_option maxRecDepth 100000 in
set_option maxHeartbeats 1000000 in
theorem create_do (d bd bn : Nat) (D : DSt) (R : DRep) (F : Nat → Prop) (s : ByteArray) (w : World) (h : DiskAt w F d D R) (hn : fpos s D.files = none)
    (cd : w.cell? ⟨bd, 0, none⟩ = some (.pointer (some ⟨d, 0, none⟩))) (cn : w.cell? ⟨bn, 0, none⟩ = some (.string s)) :
    Calls Tryz.prog 187 #[.pointer (some ⟨bd, 0, none⟩), .pointer (some ⟨bn, 0, none⟩)] w fun e w' => e = .returned (.tuple #[]) ∧ ∃ F' R', DiskAt w' F' d (D.made s) R' ∧ Stp w F w' F' := by
  have hp := (pos_links s D.files R.reps h.len).1 hn
  have c3 : w.cell? ⟨d, 3, none⟩ = some (.map (some R.mb)) := h.blk.at_ 3
  have hm : MapAt (w.alloc (.cells #[.int .i64 0, .slice none 0 0] 160)).drew R.mb (links D.files R.reps) := h.map.of_heap (Below.heap_alloc _ _ _ h.map.lt)
  obtain ⟨w2, hu, hm2, hsz, ho, ht, hout, hb⟩ := hm.put Tryz.underlying151 Tryz.underlying9 s (.pointer (some ⟨w.heap.size, 0, none⟩)) hp
  have HM := Hid.intro_ hm2
  have HB := Hid.intro_ hb
  have HS := Hid.intro_ hsz
  have HO := Hid.intro_ (And.intro ho (And.intro ht hout))
  have lbd : bd < w.heap.size := cell_lt cd
  have lbn : bn < w.heap.size := cell_lt cn
  have ld := h.blk.lt
  have HN := Hid.intro_ hn
  clear hm2 hb hsz ho ht hout hn hp
  go_enter Tryz.func187, Tryz.ntmps187
  go_wp2
  go_region
  go_end0
  have hk : Keep (fun b => b = R.mb) w w2 := ⟨HO.out.1, HO.out.2.1, HO.out.2.2, by rw [HS.out]; simp, fun b hb hne => (HB.out b hne).trans (Below.heap_alloc w _ b hb)⟩
  refine ⟨rfl, _, _, h.push HN.out hk (Nat.le_refl _) HM.out ?_, ⟨hk.mono (fun b _ e => by rw [show b = R.mb from e]; exact h.fm), fun b hb => hb.elim .inl (fun e => .inr (by omega))⟩⟩
  exact (HB.out _ (fun e => by have := h.map.lt; omega)).trans (Blk.new w _ _)
end Go.Proofs.YtadipinnbehhhaaGreatDoor
namespace Go.Proofs.YtadipinnbehhhaaGreatDoor
open Go.RowKit

def DSt.create (D : DSt) (s : ByteArray) : DSt × Int :=
  if D.on = false then (D, 10) else if okName s = false then (D, 11) else if fpos s D.files ≠ none then (D, 13) else
  D.outcome true (fun D => D.made s) (partOf fun D => D.made s)

theorem create_enters (a b : Nat) (w : World) : (callFunc 187 #[.pointer (some ⟨a, 0, none⟩), .pointer (some ⟨b, 0, none⟩)]).run Tryz.prog w = .ok (.enter 187 #[.pointer (some ⟨a, 0, none⟩), .pointer (some ⟨b, 0, none⟩)]) w := by
  kernel_rfl
/-- What stands of a call on a disk: its number, and the disk behind it. -/
def DPost (d : Nat) (F : Nat → Prop) (w : World) (D' : DSt) (n : Int) (e : Ending) (w' : World) : Prop := e = .returned (.int .i64 n) ∧ DiskTo d F D' w w'

set_option maxRecDepth 100000 in
set_option maxHeartbeats 1000000 in
theorem create_bad (d : Nat) (D : DSt) (R : DRep) (F : Nat → Prop) (E : Nat → Addr) (s : ByteArray) (w : World) (h : DiskAt w F d D R) (he : Env w F E)
    (hb : D.on = false ∨ (D.on = true ∧ okName s = false) ∨ (D.on = true ∧ okName s = true ∧ ∃ i f, fpos s D.files = some (i, f))) :
    Calls Tryz.prog 128 #[.pointer (some ⟨d, 0, none⟩), .string s] w (DPost d F w D (D.create s).2) := by
  have hk0 := ((Keep.refl Nil w).alloc (.cells #[.pointer (some ⟨d, 0, none⟩)] 31)).alloc (.cells #[.string s] 9)
  have h0 := h.nil hk0
  have he0 := he.nil hk0
  have ld := h.blk.lt
  have c0 : w.cell? ⟨d, 0, none⟩ = some (.bool D.on) := h.blk.at_ 0
  rcases hb with ho | ⟨ho, hn⟩ | ⟨ho, hn, i, f, hf⟩
  · rw [ho] at c0
    have hr : (D.create s).2 = errNo 0 := by simp [DSt.create, ho, errNo]
    rw [hr]
    clear hr ho
    have v0 : w.cell? ⟨0, 0, none⟩ = some (.iface 421 (.pointer (some (E 0)))) := he.errs.var 0 (by decide)
    have l0 := cell_lt v0
    simp only at l0
    have p0 := Nat.lt_of_le_of_lt (Nat.zero_le _) l0
    go_enter Tryz.func128, Tryz.ntmps128
    go_wp2_with (go_at_call 186; refine (told_about s E 0 _ (by decide) he0.errs).mono ?_; rintro e w1 ⟨rfl, hk1⟩)
    go_ret
    exact ⟨rfl, F, R, h0.nil hk1, Stp.of_nil (hk0.then_ hk1) F⟩
  · rw [ho] at c0
    have hr : (D.create s).2 = errNo 1 := by simp [DSt.create, ho, hn, errNo]
    rw [hr]
    have HN := Hid.intro_ hn
    clear hr ho hn
    have v1 : w.cell? ⟨1, 0, none⟩ = some (.iface 421 (.pointer (some (E 1)))) := he.errs.var 1 (by decide)
    have l1 := cell_lt v1
    simp only at l1
    have p1 := Nat.lt_of_le_of_lt (Nat.zero_le _) l1
    go_enter Tryz.func128, Tryz.ntmps128
    go_wp2_with (first
      | (go_at_call 121; refine (named_any s _).mono ?_; rw [HN.out]; rintro e w' ⟨rfl, rfl⟩)
      | (go_at_call 186; refine (told_about s E 1 _ (by decide) he0.errs).mono ?_; rintro e w1 ⟨rfl, hk1⟩))
    go_ret
    exact ⟨rfl, F, R, h0.nil hk1, Stp.of_nil (hk0.then_ hk1) F⟩
  · rw [ho] at c0
    have hr : (D.create s).2 = errNo 3 := by simp [DSt.create, ho, hn, hf, errNo]
    rw [hr]
    obtain ⟨r, _, _, hp⟩ := (pos_links s D.files R.reps h.len).2 i f hf
    have hl := fun n => (show MapAt (((w.alloc (.cells #[.pointer (some ⟨d, 0, none⟩)] 31)).alloc (.cells #[.string s] 9)).drewN n) R.mb (links D.files R.reps) from h0.map).look Tryz.underlying151 Tryz.underlying9 (zero_file _) s
    rw [hp] at hl
    simp only [Option.map_some, Option.getD_some] at hl
    have HN := Hid.intro_ hn
    clear hr ho hn hf hp
    have c3 : w.cell? ⟨d, 3, none⟩ = some (.map (some R.mb)) := h.blk.at_ 3
    have v3 : w.cell? ⟨2, 0, none⟩ = some (.iface 421 (.pointer (some (E 3)))) := he.errs.var 3 (by decide)
    have l3 := cell_lt v3
    simp only at l3
    have p3 := Nat.lt_of_le_of_lt (Nat.zero_le _) l3
    go_enter Tryz.func128, Tryz.ntmps128
    go_wp2_with (go_at_call 121; refine (named_any s _).mono ?_; rw [HN.out]; rintro e w' ⟨rfl, rfl⟩)
    go_quiet (fail)
    go_wp2_with (go_at_call 186; refine (told_about s E 3 _ (by decide) (by exact (he0.nil ((Keep.refl Nil _).drewN _)).errs)).mono ?_; rintro e w1 ⟨rfl, hk1⟩)
    go_ret
    exact ⟨rfl, F, R, (h0.nil ((Keep.refl Nil _).drewN _)).nil hk1, Stp.of_nil ((hk0.drewN _).then_ hk1) F⟩

set_option maxRecDepth 100000 in
set_option maxHeartbeats 2000000 in
theorem create_num (d : Nat) (D : DSt) (R : DRep) (F : Nat → Prop) (E : Nat → Addr) (s : ByteArray) (w : World) (h : DiskAt w F d D R) (he : Env w F E)
    (ho : D.on = true) (hn : okName s = true) (hf : fpos s D.files = none) :
    Calls Tryz.prog 128 #[.pointer (some ⟨d, 0, none⟩), .string s] w (DPost d F w (D.outcome true (fun D => D.made s) (partOf fun D => D.made s)).1 (D.outcome true (fun D => D.made s) (partOf fun D => D.made s)).2) := by
  have hk0 := ((Keep.refl Nil w).alloc (.cells #[.pointer (some ⟨d, 0, none⟩)] 31)).alloc (.cells #[.string s] 9)
  have h0 := h.nil hk0
  have he0 := he.nil hk0
  have ld := h.blk.lt
  have c0 : w.cell? ⟨d, 0, none⟩ = some (.bool true) := by rw [← ho]; exact h.blk.at_ 0
  have hp := (pos_links s D.files R.reps h.len).1 hf
  have hl := fun n => (show MapAt (((w.alloc (.cells #[.pointer (some ⟨d, 0, none⟩)] 31)).alloc (.cells #[.string s] 9)).drewN n) R.mb (links D.files R.reps) from h0.map).look Tryz.underlying151 Tryz.underlying9 (zero_file _) s
  rw [hp] at hl
  simp only [Option.map_none, Option.getD_none] at hl
  have c3 : w.cell? ⟨d, 3, none⟩ = some (.map (some R.mb)) := h.blk.at_ 3
  have hmf : ∀ (fn : Fn) (first cap : Array Value) (w : World), (Instr.makeFunc fn first cap).run Tryz.prog w = .ok (.func fn first cap) w := fun _ _ _ _ => rfl
  obtain ⟨Dn, hDn⟩ : ∃ x, x = D.outcome true (fun D => D.made s) (partOf fun D => D.made s) := ⟨_, rfl⟩
  rw [← hDn]
  have HDn := Hid.intro_ hDn
  have HN := Hid.intro_ hn
  have HF := Hid.intro_ hf
  clear ho hn hf hp hDn
  go_enter Tryz.func128, Tryz.ntmps128
  go_wp2_with (go_at_call 121; refine (named_any s _).mono ?_; rw [HN.out]; rintro e w' ⟨rfl, rfl⟩)
  go_quiet (fail)
  go_wp2_with (fail)
  have hkq := (((Keep.refl Nil ((w.alloc (.cells #[.pointer (some ⟨d, 0, none⟩)] 31)).alloc (.cells #[.string s] 9))).drewN (nq + 1)).alloc (.cells #[.func (.func 187) #[] #[.pointer (some ⟨w.heap.size, 0, none⟩), .pointer (some ⟨w.heap.size + 1, 0, none⟩)]] 1))
  have b0 : ((w.alloc (.cells #[.pointer (some ⟨d, 0, none⟩)] 31)).alloc (.cells #[.string s] 9)).cell? ⟨w.heap.size, 0, none⟩ = some (.pointer (some ⟨d, 0, none⟩)) := ((Blk.new_at w _ _ rfl).alloc _).at_ 0
  have b1 : ((w.alloc (.cells #[.pointer (some ⟨d, 0, none⟩)] 31)).alloc (.cells #[.string s] 9)).cell? ⟨w.heap.size + 1, 0, none⟩ = some (.string s) := (Blk.new_at _ _ _ (by simp)).at_ 0
  have hact := act_whole d (w.heap.size + 1 + 1) D R F E true 187 #[.pointer (some ⟨w.heap.size, 0, none⟩), .pointer (some ⟨w.heap.size + 1, 0, none⟩)] (fun D => D.made s) _ (h0.nil hkq) (he0.nil hkq) (fun w => create_enters _ _ w)
    ((Blk.new_at _ _ _ (by simp)).at_ 0) (fun e => by omega)
    (fun w1 h1 k1 => create_do d _ _ _ R F s w1 h1 HF.out (cell_keep (cell_keep b0 hkq (fun h => h)) k1 (fun (e : w.heap.size = d) => by omega)) (cell_keep (cell_keep b1 hkq (fun h => h)) k1 (fun (e : w.heap.size + 1 = d) => by omega)))
  rw [← HDn.out] at hact
  go_region_with (first
    | (go_at_call 189; refine (whole_any _ _ ⟨_, _, rfl⟩).mono ?_; rintro e w1 ⟨rfl, rfl⟩)
    | (go_at_call 188; refine hact.mono ?_
       rintro e w1 ⟨v, rfl, hv, hD1⟩)
    | (go_at_call 186; refine (told_v E _ _ _ hv ?hE2).mono ?_
       case hE2 => exact hD1.env (he0.nil hkq)
       rintro e w2 ⟨rfl, hk2⟩))
  all_goals
    go_wp2
    go_ret
    exact ⟨rfl, ((hD1.nil hk2).from_nil hkq).from_nil hk0⟩
end Go.Proofs.YtadipinnbehhhaaGreatDoor
namespace Go.Proofs.YtadipinnbehhhaaGreatDoor
open Go.RowKit

/-- The file of a name turns. -/
def updF (s : ByteArray) (g : AFile → AFile) (fs : List (ByteArray × AFile)) : List (ByteArray × AFile) := fs.map fun p => if p.1 = s then (p.1, g p.2) else p

theorem updF_names (s : ByteArray) (g : AFile → AFile) (fs : List (ByteArray × AFile)) : (updF s g fs).map (·.1) = fs.map (·.1) := by
  simp only [updF, List.map_map]
  apply List.map_congr_left
  intro p _
  simp only [Function.comp]
  split <;> rfl
theorem updF_len (s : ByteArray) (g : AFile → AFile) (fs : List (ByteArray × AFile)) : (updF s g fs).length = fs.length := by simp [updF]
theorem updF_get (s : ByteArray) (g : AFile → AFile) (fs : List (ByteArray × AFile)) (j : Nat) : (updF s g fs)[j]? = fs[j]?.map fun p => if p.1 = s then (p.1, g p.2) else p := by simp [updF]
theorem nodup_eq {α : Type} : ∀ {l : List α}, l.Nodup → ∀ {i j : Nat} {a : α}, l[i]? = some a → l[j]? = some a → i = j
  | [], _, i, j, a, hi, _ => by simp at hi
  | x :: xs, hn, i, j, a, hi, hj => by
    rw [List.nodup_cons] at hn
    cases i with
    | zero =>
      cases j with
      | zero => rfl
      | succ j =>
        simp only [List.getElem?_cons_zero, Option.some.injEq] at hi
        subst hi
        rw [List.getElem?_cons_succ] at hj
        exact absurd (List.mem_of_getElem? hj) hn.1
    | succ i =>
      cases j with
      | zero =>
        simp only [List.getElem?_cons_zero, Option.some.injEq] at hj
        subst hj
        rw [List.getElem?_cons_succ] at hi
        exact absurd (List.mem_of_getElem? hi) hn.1
      | succ j =>
        rw [List.getElem?_cons_succ] at hi hj
        rw [nodup_eq hn.2 hi hj]
theorem nodup_at {fs : List (ByteArray × AFile)} (hn : (fs.map (·.1)).Nodup) {i j : Nat} {p q : ByteArray × AFile} (hi : fs[i]? = some p) (hj : fs[j]? = some q) (he : p.1 = q.1) : i = j :=
  nodup_eq hn (a := p.1) (by simp [hi]) (by simp [hj, he])

theorem links_upd (s : ByteArray) (g : AFile → AFile) : ∀ (fs : List (ByteArray × AFile)) (rs : List (Nat × Value)), links (updF s g fs) rs = links fs rs
  | [], rs => by simp [updF, links]
  | (k, f) :: fs, [] => by simp [links]
  | (k, f) :: fs, r :: rs => by
    have ih := links_upd s g fs rs
    simp only [links, updF] at ih ⊢
    simp only [List.map_cons, List.zipWith_cons_cons, ih]
    split <;> rfl
theorem links_set (fs : List (ByteArray × AFile)) : ∀ (rs : List (Nat × Value)) (i : Nat) (r : Nat × Value) (v : Value), rs[i]? = some r → links fs (rs.set i (r.1, v)) = links fs rs := by
  intro rs i r v h
  apply List.ext_getElem?
  intro j
  simp only [links, List.getElem?_zipWith]
  by_cases q : i = j
  · subst q
    rw [List.getElem?_set_self (by exact (List.getElem?_eq_some_iff.1 h).1), h]
    cases fs[i]? <;> rfl
  · rw [List.getElem?_set_ne q]

section
variable {w w' : World} {F F' : Nat → Prop} {d : Nat} {D D' : DSt} {R : DRep}

theorem own_blk {base : Nat} {e : TypeId} {size n : Nat} {v : Value} {xs : List Value} (h : w.ownsRow base e size v n xs) {g : Nat} (hg : v.ownBlock = some g) : ∃ cur, Blk w g e cur := by
  rcases h.2 with ⟨rfl, _⟩ | ⟨g', cap, cur, rfl, _, hh, _⟩
  · simp [Value.ownBlock] at hg
  · have : g' = g := by simpa [Value.ownBlock] using hg
    subst this
    exact ⟨cur, hh⟩
theorem DiskAt.rowblk (h : DiskAt w F d D R) {i g : Nat} {f : ByteArray × AFile} {r : Nat × Value} (hf : D.files[i]? = some f) (hr : R.reps[i]? = some r) (hg : r.2.ownBlock = some g) : ∃ cur, Blk w g 161 cur := by
  obtain ⟨vs, g3, _, _⟩ := (h.file i f r hf hr).row
  exact own_blk g3 hg
theorem blk_ne {g b : Nat} {t t' : TypeId} {cs cs' : Array Value} {fr : Nat × Nat} (h : Blk w g t cs) (h' : w.heap[b]? = some (.cells cs' t' fr)) (hne : t ≠ t') : b ≠ g := by
  rintro rfl
  unfold Blk at h
  rw [h'] at h
  injection h with h
  injection h with _ h
  exact hne h.symm
theorem map_ne {mb b : Nat} {l : List (ByteArray × Value)} {cs : Array Value} {t : TypeId} {fr : Nat × Nat} (h : MapAt w mb l) (h' : w.heap[b]? = some (.cells cs t fr)) : b ≠ mb := by
  rintro rfl
  obtain ⟨es, cl, h1, _⟩ := h
  rw [h1] at h'
  cases h'
theorem DiskAt.tbne (h : DiskAt w F d D R) {b g : Nat} {t : TypeId} {cs : Array Value} (e : R.tb = some b) (hb : Blk w g t cs) (ht : t ≠ 290) : b ≠ g := by
  obtain ⟨_, cs', fr, h2⟩ := h.ftr b e
  exact blk_ne hb h2 ht

/-- One file turns (and the disk's own numbers with it). -/
theorem DiskAt.upd (h : DiskAt w F d D R) {i : Nat} {s : ByteArray} {f f' : AFile} {r : Nat × Value} {v' : Value} (hi : D.files[i]? = some (s, f)) (hr : R.reps[i]? = some r)
    (k : Keep (fun b => b = d ∨ b = r.1 ∨ r.2.ownBlock = some b) w w') (hF : ∀ b, F b → F' b) (hlt : ∀ b, F' b → b < w'.heap.size)
    (hb : Blk w' d 153 (D'.cells { R with reps := R.reps.set i (r.1, v') })) (hf : FileAt w' F' (r.1, v') f') (hv : ∀ g, v'.ownBlock = some g → r.2.ownBlock = some g ∨ w.heap.size ≤ g)
    (hD : D'.files = updF s (fun _ => f') D.files) (ht : D'.trs = D.trs) (ho : D'.Ok) : DiskAt w' F' d D' { R with reps := R.reps.set i (r.1, v') } := by
  have hfi := h.file i _ r hi hr
  have hil : i < R.reps.length := (List.getElem?_eq_some_iff.1 hr).1
  have hrow : ∀ g, r.2.ownBlock = some g → ∃ cur, Blk w g 161 cur := fun g hg => h.rowblk hi hr hg
  have hmk : w'.heap[R.mb]? = w.heap[R.mb]? := k.same _ h.map.lt (by
    rintro (e | e | e)
    · exact h.map.ne h.blk e
    · exact h.map.ne hfi.blk e
    · obtain ⟨cur, hc⟩ := hrow _ e
      exact h.map.ne hc rfl)
  have hu8 : ∀ b cs fr, w.heap[b]? = some (.cells cs 5 fr) → ¬ (b = d ∨ b = r.1 ∨ r.2.ownBlock = some b) := by
    intro b cs fr hc
    rintro (e | e | e)
    · exact blk_ne h.blk hc (by decide) e
    · exact blk_ne hfi.blk hc (by decide) e
    · obtain ⟨cur, hc2⟩ := hrow _ e
      exact blk_ne hc2 hc (by decide) rfl
  have hother : ∀ (j : Nat) (p : ByteArray × AFile) (q : Nat × Value), j ≠ i → D.files[j]? = some p → R.reps[j]? = some q → FileAt w' F' q p.2 := by
    intro j p q hji hp hq
    have hfj := h.file j p q hp hq
    refine (hfj.keep k ?_ (fun g hg => ?_) (fun b cs fr _ hc => hu8 b cs fr hc)).mono hF
    · rintro (e | e | e)
      · exact Blk.ne_ hfj.blk h.blk (by decide) e
      · exact hji (nodup_eq h.fbs (a := q.1) (by simp [hq]) (by simp [hr, e]))
      · obtain ⟨cur, hc⟩ := hrow _ e
        exact Blk.ne_ hfj.blk hc (by decide) rfl
    · obtain ⟨cur, hc⟩ := h.rowblk hp hq hg
      rintro (e | e | e)
      · exact Blk.ne_ hc h.blk (by decide) e
      · exact Blk.ne_ hc hfi.blk (by decide) e
      · exact hji (h.row j i q r g hq hr hg e)
  refine ⟨hb, hF _ h.fd, hF _ h.fm, ?_, ?_, ?_, ?_, ?_, ?_, ?_, ?_, h.tcm, hlt, ho⟩
  · rw [hD, links_upd, links_set _ _ _ _ _ hr]
    exact h.map.of_heap hmk
  · rw [hD, updF_len]; simpa using h.len
  · have : ({ R with reps := R.reps.set i (r.1, v') } : DRep).reps.map (·.1) = R.reps.map (·.1) := by
      apply List.ext_getElem?
      intro j
      simp only [List.getElem?_map]
      by_cases q : i = j
      · subst q
        rw [List.getElem?_set_self hil, hr]
        rfl
      · rw [List.getElem?_set_ne q]
    rw [this]
    exact h.fbs
  · intro j p q hp hq
    rw [hD, updF_get] at hp
    by_cases hji : i = j
    · subst hji
      simp only [List.getElem?_set_self hil, Option.some.injEq] at hq
      subst hq
      rw [hi] at hp
      simp only [Option.map_some, if_true, Option.some.injEq] at hp
      subst hp
      exact hf
    · simp only [List.getElem?_set_ne hji] at hq
      rw [Option.map_eq_some_iff] at hp
      obtain ⟨p', hp', e⟩ := hp
      have hne : ¬ p'.1 = s := fun e2 => hji (nodup_at h.ok.names hi hp' e2.symm)
      rw [if_neg hne] at e
      subst e
      exact hother j p' q (Ne.symm hji) hp' hq
  · intro a b p q g hp hq hg hg'
    have key : ∀ (a : Nat) (p : Nat × Value), (R.reps.set i (r.1, v'))[a]? = some p → p.2.ownBlock = some g → (a = i ∧ v'.ownBlock = some g) ∨ (a ≠ i ∧ R.reps[a]? = some p) := by
      intro a p hp hg
      by_cases hai : i = a
      · subst hai
        simp only [List.getElem?_set_self hil, Option.some.injEq] at hp
        subst hp
        exact .inl ⟨rfl, hg⟩
      · rw [List.getElem?_set_ne hai] at hp
        exact .inr ⟨Ne.symm hai, hp⟩
    have hnew : ∀ (a : Nat) (p : Nat × Value), a ≠ i → R.reps[a]? = some p → p.2.ownBlock = some g → v'.ownBlock = some g → False := by
      intro a p hai hp hg hv2
      rcases hv g hv2 with e | e
      · exact hai (h.row a i p r g hp hr hg e)
      · have hal : a < D.files.length := by rw [← h.len]; exact (List.getElem?_eq_some_iff.1 hp).1
        obtain ⟨cur, hc⟩ := h.rowblk (List.getElem?_eq_getElem hal) hp hg
        have := hc.lt
        omega
    rcases key a p hp hg with ⟨rfl, e1⟩ | ⟨ha, hp2⟩
    · rcases key b q hq hg' with ⟨rfl, _⟩ | ⟨hb2, hq2⟩
      · rfl
      · exact (hnew b q hb2 hq2 hg' e1).elim
    · rcases key b q hq hg' with ⟨rfl, e1⟩ | ⟨hb2, hq2⟩
      · exact (hnew a p ha hp2 hg e1).elim
      · exact h.row a b p q g hp2 hq2 hg hg'
  · intro j u hu
    rw [ht] at hu
    obtain ⟨b, e, hc⟩ := h.trs j u hu
    refine ⟨b, e, cell_keep hc k ?_⟩
    rintro (e2 | e2 | e2)
    · exact h.tbne e h.blk (by decide) e2
    · exact h.tbne e hfi.blk (by decide) e2
    · obtain ⟨cur, hc2⟩ := hrow _ e2
      exact h.tbne e hc2 (by decide) rfl
  · intro b e
    obtain ⟨g1, cs, fr, g2⟩ := h.ftr b e
    refine ⟨hF _ g1, cs, fr, (k.same _ (lt_of_heap g2) ?_).trans g2⟩
    rintro (e2 | e2 | e2)
    · exact h.tbne e h.blk (by decide) e2
    · exact h.tbne e hfi.blk (by decide) e2
    · obtain ⟨cur, hc2⟩ := hrow _ e2
      exact h.tbne e hc2 (by decide) rfl
  · rw [ht]; exact h.tcl
end
end Go.Proofs.YtadipinnbehhhaaGreatDoor
