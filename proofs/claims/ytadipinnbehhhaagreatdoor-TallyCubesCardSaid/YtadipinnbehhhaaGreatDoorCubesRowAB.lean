/- Disk: a numbered call: it is done, or a fault or a cut befalls it. Disk: a numbered call in one: what it answers, whatever befalls it. Disk: Create. Disk: Create, every way. Disk: one file turns, or goes. Disk: Create in one; Seal; Length; On, Block. Disk: Length; On, Block. Rows of one's own: make, copy and append as steps, and what they keep. Disk: Append: what it does to the file. Disk: Append, every way. Disk: Append in one. Disk: Delete. Numbers written into bytes. The reference's number: bytes put behind a row of one's own. The sum of bytes: bit by bit, and by half bytes. Plain arithmetic. Sum: the walk. The reference's Sum: the walk. Small functions: how many records a block holds; kinds; numbers brought into a range. The reference's Encode: records as a block. The reference's Encode: the walk. -/
import Derived.BigRegion
import Derived.Deep.RegionWith
import Derived.OwnWalk
import Derived.Laws.CopyOwn
import Derived.Laws.OwnMore
import Derived.Deep.RegionLaw
import Derived.Maps.AppendAt
import Derived.Deep.Cut
import Derived.Deep.CutRange
import Derived.StillTailTactics
import Derived.Laws.BitsAllLaws
import Derived.Test.YtadipinnbehhhaaGreatDoorCubesRowAA
namespace Go.Proofs.YtadipinnbehhhaaGreatDoor
open Go.RowKit

inductive Fate where
  | done
  | fault
  | cut (n : Int)
def DSt.fate (D : DSt) (fails : Bool) : Fate := match D.hit with
  | none => .done
  | some t => if t.kind = 1 then (if fails then .fault else .done) else .cut t.bytes
theorem hit_kind {D : DSt} {t : Tr} (h : D.hit = some t) : t.kind = 1 ∨ t.kind = 2 := by
  have := List.find?_some h
  simp [Tr.hits] at this
  exact this.2
theorem number_none (d : Nat) (D : DSt) (R : DRep) (F : Nat → Prop) (w : World) (h : DiskAt w F d D R) (hh : D.hit = none) :
    Calls Tryz.prog 226 #[.pointer (some ⟨d, 0, none⟩)] w fun e w' => e = .returned (.tuple #[.agg #[.int .i64 0, .int .i64 0, .int .i64 0], .bool false]) ∧ DiskAt w' F d D.numbered R ∧ Keep (fun b => b = d) w w' := by
  have := number_any d D R F w h
  rw [hh] at this
  exact this
theorem number_some (d : Nat) (D : DSt) (R : DRep) (F : Nat → Prop) (t : Tr) (w : World) (h : DiskAt w F d D R) (hh : D.hit = some t) :
    Calls Tryz.prog 226 #[.pointer (some ⟨d, 0, none⟩)] w fun e w' => e = .returned (.tuple #[.agg #[.int .i64 t.at_, .int .i64 t.kind, .int .i64 t.bytes], .bool true]) ∧ DiskAt w' F d D.numbered R ∧ Keep (fun b => b = d) w w' := by
  have := number_any d D R F w h
  rw [hh] at this
  exact this
set_option maxRecDepth 100000 in
set_option maxHeartbeats 1000000 in
theorem act_done (d : Nat) (D : DSt) (R : DRep) (F : Nat → Prop) (fails : Bool) (fd fp : FuncId) (cd cp : Array Value) (Q : World → Prop) (w : World) (h : DiskAt w F d D R) (hf : D.fate fails = .done)
    (hcf : ∀ w, (callFunc fd cd).run Tryz.prog w = .ok (.enter fd cd) w)
    (hd : ∀ w1, DiskAt w1 F d D.numbered R → Keep (fun b => b = d) w w1 → Calls Tryz.prog fd cd w1 fun e w2 => e = .returned (.tuple #[]) ∧ Q w2) :
    Calls Tryz.prog 188 #[.pointer (some ⟨d, 0, none⟩), .bool fails, .func (.func fd) #[] cd, .func (.func fp) #[] cp] w fun e w' => e = .returned .nilIface ∧ Q w' := by
  have HD := Hid.intro_ hd
  clear hd
  cases hh : D.hit with
  | none =>
    clear hf
    have HH := Hid.intro_ hh
    clear hh
    go_enter Tryz.func188, Tryz.ntmps188
    go_wp2_with (go_at_call 226; refine (number_none d D R F _ h HH.out).mono ?_; rintro e w1 ⟨rfl, hD1, hk1⟩)
    refine (HD.out _ (hD1.nil ((Keep.refl _ _).alloc _)) (hk1.alloc _)).mono ?_
    rintro e w2 ⟨rfl, hq⟩
    go_wp2
    go_ret
    exact ⟨rfl, hq⟩
  | some t =>
    have hk := hit_kind hh
    have h1 : t.kind = 1 ∧ fails = false := by
      simp only [DSt.fate, hh] at hf
      rcases hk with hk | hk
      · rw [if_pos hk] at hf
        cases hq : fails
        · exact ⟨hk, rfl⟩
        · rw [hq] at hf; simp at hf
      · rw [if_neg (by omega)] at hf; cases hf
    obtain ⟨hk1, rfl⟩ := h1
    have HH := Hid.intro_ hh
    have e1 : (t.kind == 1) = true := by simpa using hk1
    have e2 : (t.kind == 2) = false := by simp [hk1]
    clear hh hk hk1 hf
    go_enter Tryz.func188, Tryz.ntmps188
    go_wp2_with (go_at_call 226; refine (number_some d D R F t _ h HH.out).mono ?_; rintro e w1 ⟨rfl, hD1, hk1⟩)
    refine (HD.out _ (hD1.nil ((Keep.refl _ _).alloc _)) (hk1.alloc _)).mono ?_
    rintro e w2 ⟨rfl, hq⟩
    go_wp2
    go_ret
    exact ⟨rfl, hq⟩
def DSt.faulted (D : DSt) : DSt := { D.numbered with faults := wrap64 (D.faults + 1) }
set_option maxRecDepth 100000 in
set_option maxHeartbeats 1000000 in
theorem act_fault (d : Nat) (D : DSt) (R : DRep) (F : Nat → Prop) (E : Nat → Addr) (fd fp : FuncId) (cd cp : Array Value) (w : World) (h : DiskAt w F d D R) (he : Env w F E) (hf : D.fate true = .fault) :
    Calls Tryz.prog 188 #[.pointer (some ⟨d, 0, none⟩), .bool true, .func (.func fd) #[] cd, .func (.func fp) #[] cp] w fun e w' =>
      e = .returned (.iface 421 (.pointer (some (E 8)))) ∧ DiskAt w' F d D.faulted R ∧ Keep (fun b => b = d) w w' := by
  cases hh : D.hit with
  | none => simp [DSt.fate, hh] at hf
  | some t =>
    have h1 : t.kind = 1 := by
      simp only [DSt.fate, hh] at hf
      by_cases q : t.kind = 1
      · exact q
      · rw [if_neg q] at hf; cases hf
    have HH := Hid.intro_ hh
    have e1 : (t.kind == 1) = true := by simpa using h1
    clear hh h1 hf
    go_enter Tryz.func188, Tryz.ntmps188
    go_wp2_with (go_at_call 226; refine (number_some d D R F t _ h HH.out).mono ?_; rintro e w1 ⟨rfl, hD1, hk1⟩
                 have c8 : w1.cell? ⟨d, 8, none⟩ = some (.int .i64 D.faults) := hD1.blk.at_ 8
                 have f8 : w1.frozen? ⟨d, 8, none⟩ = false := hD1.blk.fr 8
                 have hdl := hD1.blk.lt
                 have v8 : w1.cell? ⟨3, 0, none⟩ = some (.iface 421 (.pointer (some (E 8)))) := cell_keep (he.errs.var 8 (by decide)) hk1 (fun e => he.nv 8 (by decide) (by rw [show errVar 8 = d from e]; exact h.fd))
                 have nv8 : ¬ d = 3 := fun e => he.nv 8 (by decide) (by rw [show errVar 8 = d from e.symm]; exact h.fd)
                 have nv8' : ¬ 3 = d := fun e => nv8 e.symm
                 have l8 : 3 < w1.heap.size := cell_lt v8)
    go_ret
    have hk8 := (Keep.refl (fun b => b = d) w1).setCell (p := ⟨d, 8, none⟩) (fun _ => rfl) (.int .i64 (wrap64 (D.faults + 1)))
    refine ⟨rfl, ?_, (hk1.then_ hk8).alloc _⟩
    refine DiskAt.nil ?_ ((Keep.refl Nil _).alloc _)
    refine DiskAt.turn (D' := D.faulted) hD1 hk8 (Blk.set_ hD1.blk 8 _) rfl rfl ?_
    obtain ⟨a1, a2, a3, a4, a5, a6, a7, a8, a9, a10, a11⟩ := hD1.ok
    exact ⟨a1, a2, a3, a4, a5, a6, a7, a8, a9, a10, a11⟩
def DSt.cutOff (D : DSt) : DSt := { D with on := false }
set_option maxRecDepth 100000 in
set_option maxHeartbeats 1000000 in
theorem act_cut (d : Nat) (D : DSt) (R : DRep) (F : Nat → Prop) (E : Nat → Addr) (fails : Bool) (n : Int) (fd fp : FuncId) (cd cp : Array Value) (D2 : DSt) (w : World) (h : DiskAt w F d D R) (he : Env w F E) (hf : D.fate fails = .cut n)
    (hcf : ∀ w, (callFunc fp (#[.int .i64 n] ++ cp)).run Tryz.prog w = .ok (.enter fp (#[.int .i64 n] ++ cp)) w)
    (hd : ∀ w1, DiskAt w1 F d D.numbered R → Keep (fun b => b = d) w w1 → Calls Tryz.prog fp (#[.int .i64 n] ++ cp) w1 fun e w2 => e = .returned (.tuple #[]) ∧ ∃ F2 R2, DiskAt w2 F2 d D2 R2 ∧ Stp w1 F w2 F2) :
    Calls Tryz.prog 188 #[.pointer (some ⟨d, 0, none⟩), .bool fails, .func (.func fd) #[] cd, .func (.func fp) #[] cp] w fun e w' =>
      e = .returned (.iface 421 (.pointer (some (E 0)))) ∧ ∃ F2 R2, DiskAt w' F2 d D2.cutOff R2 ∧ Stp w F w' F2 := by
  have HD := Hid.intro_ hd
  clear hd
  cases hh : D.hit with
  | none => simp [DSt.fate, hh] at hf
  | some t =>
    have hk := hit_kind hh
    have h1 : t.kind = 2 ∧ t.bytes = n := by
      simp only [DSt.fate, hh] at hf
      by_cases q : t.kind = 1
      · rw [if_pos q] at hf; cases fails <;> simp at hf
      · rw [if_neg q] at hf
        injection hf with hf
        exact ⟨by omega, hf⟩
    obtain ⟨h1, rfl⟩ := h1
    have HH := Hid.intro_ hh
    have e1 : (t.kind == 1) = false := by simp [h1]
    have e2 : (t.kind == 2) = true := by simpa using h1
    clear hh h1 hf hk
    go_enter Tryz.func188, Tryz.ntmps188
    go_wp2_with (go_at_call 226; refine (number_some d D R F t _ h HH.out).mono ?_; rintro e w1 ⟨rfl, hD1, hk1⟩)
    refine (HD.out _ (hD1.nil ((Keep.refl _ _).alloc _)) (hk1.alloc _)).mono ?_
    rintro e w2 ⟨rfl, F2, R2, hD2, hs2⟩
    have hs : Stp w F w2 F2 := Stp.trans (w' := w1.alloc (.cells #[.int .i64 t.at_, .int .i64 t.kind, .int .i64 t.bytes] 290)) (F' := F) ⟨(hk1.alloc _).mono (fun b _ e => by rw [show b = d from e]; exact h.fd), fun b hb => .inl hb⟩ hs2
    have hE2 := he.step hs
    have c0 : w2.cell? ⟨d, 0, none⟩ = some (.bool D2.on) := hD2.blk.at_ 0
    have f0 : w2.frozen? ⟨d, 0, none⟩ = false := hD2.blk.fr 0
    have v0 : w2.cell? ⟨0, 0, none⟩ = some (.iface 421 (.pointer (some (E 0)))) := hE2.errs.var 0 (by decide)
    have nv0 : ¬ d = 0 := fun e => hE2.nv 0 (by decide) (by rw [show errVar 0 = d from e.symm]; exact hD2.fd)
    have nv0' : ¬ 0 = d := fun e => nv0 e.symm
    go_wp2
    go_ret
    have hk0 := (Keep.refl (fun b => b = d) w2).setCell (p := ⟨d, 0, none⟩) (fun _ => rfl) (.bool false)
    refine ⟨rfl, F2, R2, ?_, hs.trans ⟨hk0.mono (fun b _ e => by rw [show b = d from e]; exact hD2.fd), fun b hb => .inl hb⟩⟩
    refine DiskAt.turn (D' := D2.cutOff) hD2 hk0 (Blk.set_ hD2.blk 0 _) rfl rfl ?_
    obtain ⟨a1, a2, a3, a4, a5, a6, a7, a8, a9, a10, a11⟩ := hD2.ok
    exact ⟨a1, a2, a3, a4, a5, a6, a7, a8, a9, a10, a11⟩
end Go.Proofs.YtadipinnbehhhaaGreatDoor
namespace Go.Proofs.YtadipinnbehhhaaGreatDoor
open Go.RowKit

def ErrV (E : Nat → Addr) (v : Value) (n : Int) : Prop := (v = .nilIface ∧ n = 0) ∨ ∃ k, k < 9 ∧ v = .iface 421 (.pointer (some (E k))) ∧ n = errNo k
theorem told_v (E : Nat → Addr) (v : Value) (n : Int) (w : World) (hv : ErrV E v n) (h : ErrsAt w E) :
    Calls Tryz.prog 186 #[v] w fun e w' => e = .returned (.int .i64 n) ∧ Keep Nil w w' := by
  rcases hv with ⟨rfl, rfl⟩ | ⟨k, hk, rfl, rfl⟩
  · exact (told_nil w).mono fun e w' ⟨he, hw⟩ => ⟨he, by subst hw; exact Keep.refl _ _⟩
  · exact told_sent E k w hk h
def DiskTo (d : Nat) (F : Nat → Prop) (D' : DSt) (w w' : World) : Prop := ∃ F' R', DiskAt w' F' d D' R' ∧ Stp w F w' F'
theorem DiskTo.of_keep {d : Nat} {F : Nat → Prop} {D' : DSt} {R : DRep} {w w' : World} (h : DiskAt w' F d D' R) (k : Keep (fun b => b = d) w w') : DiskTo d F D' w w' :=
  ⟨F, R, h, k.mono (fun b _ e => by rw [show b = d from e]; exact h.fd), fun b hb => .inl hb⟩
theorem DiskTo.nil {d : Nat} {F : Nat → Prop} {D' : DSt} {w w' w2 : World} (h : DiskTo d F D' w w') (k : Keep Nil w' w2) : DiskTo d F D' w w2 := by
  obtain ⟨F', R', h1, h2⟩ := h
  exact ⟨F', R', h1.nil k, h2.then_nil k⟩
end Go.Proofs.YtadipinnbehhhaaGreatDoor
namespace Go.Proofs.YtadipinnbehhhaaGreatDoor
open Go.RowKit

theorem zipWith_append_one {α β γ : Type} (f : α → β → γ) (a : α) (b : β) : ∀ (l : List α) (r : List β), r.length = l.length → List.zipWith f (l ++ [a]) (r ++ [b]) = List.zipWith f l r ++ [f a b]
  | [], [], _ => rfl
  | [], _ :: _, h => by simp at h
  | _ :: _, [], h => by simp at h
  | x :: l, y :: r, h => by
    simp only [List.cons_append, List.zipWith_cons_cons, List.cons.injEq, true_and]
    exact zipWith_append_one f a b l r (by simpa using h)
theorem total_append (a b : List (ByteArray × AFile)) : total (a ++ b) = total a + total b := by simp [total]
end Go.Proofs.YtadipinnbehhhaaGreatDoor
namespace Go.Proofs.YtadipinnbehhhaaGreatDoor
open Go.RowKit

end Go.Proofs.YtadipinnbehhhaaGreatDoor
namespace Go.Proofs.YtadipinnbehhhaaGreatDoor
open Go.RowKit

theorem nodup_eq {α : Type} : ∀ {l : List α}, l.Nodup → ∀ {i j : Nat} {a : α}, l[i]? = some a → l[j]? = some a → i = j
  | [], _, i, j, a, hi, _ => by simp at hi
  | x :: xs, hn, i, j, a, hi, hj => by
    rw [List.nodup_cons] at hn
    cases i with
    | zero =>
      cases j with
      | zero => rfl
      | succ j =>
        simp only [List.getElem?_cons_zero, Option.some.injEq] at hi
        subst hi
        rw [List.getElem?_cons_succ] at hj
        exact absurd (List.mem_of_getElem? hj) hn.1
    | succ i =>
      cases j with
      | zero =>
        simp only [List.getElem?_cons_zero, Option.some.injEq] at hj
        subst hj
        rw [List.getElem?_cons_succ] at hi
        exact absurd (List.mem_of_getElem? hi) hn.1
      | succ j =>
        rw [List.getElem?_cons_succ] at hi hj
        rw [nodup_eq hn.2 hi hj]
section
variable {w w' : World} {F F' : Nat → Prop} {d : Nat} {D D' : DSt} {R : DRep}

theorem own_blk {base : Nat} {e : TypeId} {size n : Nat} {v : Value} {xs : List Value} (h : w.ownsRow base e size v n xs) {g : Nat} (hg : v.ownBlock = some g) : ∃ cur, Blk w g e cur := by
  rcases h.2 with ⟨rfl, _⟩ | ⟨g', cap, cur, rfl, _, hh, _⟩
  · simp [Value.ownBlock] at hg
  · have : g' = g := by simpa [Value.ownBlock] using hg
    subst this
    exact ⟨cur, hh⟩
end
end Go.Proofs.YtadipinnbehhhaaGreatDoor
namespace Go.Proofs.YtadipinnbehhhaaGreatDoor
open Go.RowKit

theorem fpos_reps {w : World} {F : Nat → Prop} {d : Nat} {D : DSt} {R : DRep} {s : ByteArray} {i : Nat} {f : AFile} (h : DiskAt w F d D R) (hf : fpos s D.files = some (i, f)) : ∃ r, R.reps[i]? = some r ∧ D.files[i]? = some (s, f) := by
  obtain ⟨r, h1, h2, _⟩ := (pos_links s D.files R.reps h.len).2 i f hf
  exact ⟨r, h1, h2⟩
end Go.Proofs.YtadipinnbehhhaaGreatDoor
namespace Go.Proofs.YtadipinnbehhhaaGreatDoor
open Go.RowKit

def DSt.length (D : DSt) (s : ByteArray) : Int × Bool × Int := match D.perr s with
  | some k => (0, false, errNo k)
  | none => match fpos s D.files with
    | none => (0, false, 0)
    | some (_, f) => (f.blocks.length, f.done, 0)
theorem perr_lt {D : DSt} {s : ByteArray} {k : Nat} (hp : D.perr s = some k) : k < 9 := by
  unfold DSt.perr DSt.ferr at hp
  split at hp
  · injection hp; omega
  · split at hp
    · injection hp; omega
    · split at hp
      · injection hp; omega
      · cases hp
theorem FileAt.len {w : World} {F : Nat → Prop} {r : Nat × Value} {f : AFile} (h : FileAt w F r f) : ∃ a c, r.2 = .slice a f.blocks.length c ∧ f.blocks.length ≤ c ∧ c ≤ maxLen := by
  obtain ⟨vs, ⟨h1, h2⟩, _⟩ := h.row
  rcases h2 with ⟨e, h0⟩ | ⟨g, cap, cur, e, _, _, hle, hcap, _⟩
  · rw [e, h0]; exact ⟨_, _, rfl, by simp, by decide⟩
  · exact ⟨_, _, e, hle, hcap⟩
set_option maxRecDepth 100000 in
set_option maxHeartbeats 1000000 in
theorem length_any (d : Nat) (D : DSt) (R : DRep) (F : Nat → Prop) (E : Nat → Addr) (s : ByteArray) (w : World) (h : DiskAt w F d D R) (he : Env w F E) :
    Calls Tryz.prog 182 #[.pointer (some ⟨d, 0, none⟩), .string s] w fun e w' =>
      e = .returned (.tuple #[.int .i64 (D.length s).1, .bool (D.length s).2.1, .int .i64 (D.length s).2.2]) ∧ Keep Nil w w' := by
  unfold DSt.length
  cases hp : D.perr s with
  | some k =>
    have HP := Hid.intro_ hp
    have hk := perr_lt hp
    clear hp
    go_enter Tryz.func182, Tryz.ntmps182
    go_wp2_with (first
      | (go_at_call 198; refine (powered_bad d D R F E s k _ h he HP.out).mono ?_; rintro e w1 ⟨rfl, hd1⟩)
      | (go_at_call 186; refine (told_about s E k _ hk (by exact (he.nil hd1.keep).errs)).mono ?_; rintro e w2 ⟨rfl, hk2⟩))
    go_ret3
    exact ⟨rfl, hd1.keep.then_ hk2⟩
  | none =>
    obtain ⟨ho, hn, i, f, hf⟩ := perr_on hp
    obtain ⟨r, hr, hi⟩ := fpos_reps h hf
    simp only [hf]
    have HO := Hid.intro_ ho
    have HN := Hid.intro_ hn
    have HF := Hid.intro_ hf
    have HR := Hid.intro_ hr
    have hfi := h.file i _ r hi hr
    obtain ⟨a, c, hv, hlc, hcm⟩ := hfi.len
    have c0 := hfi.blk.at_ 0
    have c1 := hfi.blk.at_ 1
    rw [hv] at c1
    simp only [List.getElem?_toArray, List.getElem?_cons_zero, List.getElem?_cons_succ] at c0 c1
    clear hp ho hn hf hr hi
    cases hd : f.done
    all_goals
      simp only [hd] at c0
      go_enter Tryz.func182, Tryz.ntmps182
      go_wp2_with (go_at_call 198; refine (powered_ok d D R F s i f r _ h HO.out HN.out HF.out HR.out).mono ?_; rintro e w' ⟨rfl, rfl⟩)
      go_region
      go_wp2
      go_ret3
      exact ⟨rfl, (Keep.refl Nil _).drew⟩
set_option maxHeartbeats 400000 in
theorem block_any (d : Nat) (D : DSt) (R : DRep) (F : Nat → Prop) (w : World) (h : DiskAt w F d D R) :
    Calls Tryz.prog 123 #[.pointer (some ⟨d, 0, none⟩)] w fun e w' => e = .returned (.int .i64 D.block) ∧ w' = w := by
  have c0 : w.cell? ⟨d, 1, none⟩ = some (.int .i64 D.block) := h.blk.at_ 1
  go_enter Tryz.func123, Tryz.ntmps123
  go_wp2
  go_ret
  exact ⟨rfl, rfl⟩
end Go.Proofs.YtadipinnbehhhaaGreatDoor
namespace Go.Proofs.YtadipinnbehhhaaGreatDoor
open Go.RowKit

theorem info_u8 : (Tryz.prog.info? 5).map (fun i => (i.zero, i.size, i.bytes)) = some (some (.int .u8 0), 1, 1) := by kernel_rfl
theorem info_bytes : (Tryz.prog.info? 161).map (fun i => (i.zero, i.size, i.bytes)) = some (some (.slice none 0 0), 1, 24) := by kernel_rfl
theorem Keep.of_grown {w w' : World} {row : Option Nat} (h : w.grownBy w' row) : Keep (fun b => row = some b) w w' :=
  ⟨h.os, h.tape, h.output, h.size, fun b hb hn => h.block b hb (fun e => hn e.symm)⟩
theorem Keep.of_grown_none {w w' : World} (h : w.grownBy w' none) : Keep Nil w w' := ⟨h.os, h.tape, h.output, h.size, fun b hb _ => h.block b hb (by simp)⟩
theorem step_append_own {P : Program} {ops : Array Oper} {o : Oper} {a : Act} {w : World} {K : Act → World → Prop} {Q : Exit → Act → World → Prop} {Z : Prop}
    (hg : o.guard = none) (s x : Operand) (t : TypeId) (ho : o.op = Op.call { callee := Callee.builtin Builtin.append, args := #[s, x], argTypes := #[t, t] })
    (base : Nat) (e : TypeId) (i : TypeInfo) (z : Value) (size bytes : Nat) (ht : P.underlying t = some (.slice e)) (hi : P.info? e = some i) (hz : i.zero = some z)
    (hsize : i.size = size) (hby : i.bytes = bytes) (hzs : z.cells.size = size) (hsz : 0 < size)
    (v : Value) (n : Nat) (xs : List Value) (hs : a.eval s = v) (hown : w.ownsRow base e size v n xs)
    (ad : Addr) (m c : Nat) (news : List Value) (hx : a.eval x = .slice (some ad) m c) (hl : news.length = m * size) (hnews : ∀ j u, news[j]? = some u → w.cell? (ad.add j) = some u) (h1 : ∀ u ∈ news, u.oneCell' = true)
    (h63 : n + m ≤ maxLen) (hbytes : (n + m) * bytes ≤ 140737488355328) (hbase : base ≤ w.heap.size)
    (hK : ∀ av cv w', Hid (w'.ownsRow base e size (.slice av (n + m) cv) (n + m) (xs ++ news)) → Keep (fun b => v.ownBlock = some b) w w' → Hid ((Value.slice av (n + m) cv).ownBlock = v.ownBlock ∨ (Value.slice av (n + m) cv).ownBlock = some w.heap.size) → K (a.put o.dst (.slice av (n + m) cv)) w') :
    if Region.wanted o (yielded ops a.tmps) = true then Oper.wp P o a w K Q else Z := by
  have hw : Region.wanted o (yielded ops a.tmps) = true := by simp [Region.wanted, hg]
  rw [if_pos hw]
  obtain ⟨v', w', hr, h2, h3, h4, h5⟩ := run_append_own_at (P := P) w base t o.type e i z size bytes ht hi hz hsize hby hzs hsz v n xs hown ad m c news hl hnews h1 h63 hbytes hbase
  unfold Oper.wp execOp
  simp only [ho, resolve, invoke, builtin, Sem.run_bind, Sem.run_pure, Result.andThen_ok, List.map_toArray, List.map_cons, List.map_nil, hs, hx, hr]
  have hv : ∃ av cv, v' = .slice av (n + m) cv := by
    rcases h2.2 with ⟨rfl, e⟩ | ⟨g, cap, cur, rfl, _⟩
    · rw [e]; exact ⟨_, _, rfl⟩
    · exact ⟨_, _, rfl⟩
  obtain ⟨av, cv, rfl⟩ := hv
  exact hK av cv w' h2 (Keep.of_grown h3) h5
theorem one_new (w : World) (t : TypeId) (x : Value) : ∀ (j : Nat) (u : Value), [x][j]? = some u → (w.alloc (.cells #[x] t)).cell? (Addr.add ⟨w.heap.size, 0, none⟩ j) = some u := by
  intro j u hu
  have hj := (List.getElem?_eq_some_iff.1 hu).1
  simp at hj
  subst hj
  simp at hu
  subst hu
  exact (Blk.new w t #[x]).at_ 0
theorem own_rd {w : World} {base : Nat} {e : TypeId} {size n : Nat} {xs : List Value} {a : Option Addr} {m c : Nat} (h : w.ownsRow base e size (.slice a m c) n xs) : Rd w a xs := by
  intro j u hu
  rcases h with ⟨hl, ⟨hv, h0⟩ | ⟨g, cap, cur, hv, _, hh, hle, hm, hs, ht⟩⟩
  · subst h0
    simp at hl
    subst hl
    simp at hu
  · injection hv with ha _ _
    refine ⟨⟨g, 0, none⟩, ha, ?_⟩
    rw [← ht] at hu
    have hj : j < n * size := by
      have := (List.getElem?_eq_some_iff.1 hu).1
      simp at this
      omega
    rw [List.getElem?_take_of_lt hj] at hu
    by_cases h0 : j = 0
    · subst h0
      simpa [World.cell?, hh, Addr.add] using hu
    · simpa [World.cell?, hh, Addr.add, h0] using hu
end Go.Proofs.YtadipinnbehhhaaGreatDoor
namespace Go.Proofs.YtadipinnbehhhaaGreatDoor
open Go.RowKit

theorem le_sum : ∀ {l : List Nat} {x : Nat}, x ∈ l → x ≤ l.sum
  | [], _, h => by simp at h
  | a :: l, x, h => by
    rcases List.mem_cons.1 h with rfl | h
    · simp
    · have := le_sum h; simp; omega
end Go.Proofs.YtadipinnbehhhaaGreatDoor
namespace Go.Proofs.YtadipinnbehhhaaGreatDoor
open Go.RowKit

end Go.Proofs.YtadipinnbehhhaaGreatDoor
namespace Go.Proofs.YtadipinnbehhhaaGreatDoor
open Go.RowKit

end Go.Proofs.YtadipinnbehhhaaGreatDoor
namespace Go.Proofs.YtadipinnbehhhaaGreatDoor
open Go.RowKit

end Go.Proofs.YtadipinnbehhhaaGreatDoor
namespace Go.Proofs.YtadipinnbehhhaaGreatDoor
open Go.RowKit

end Go.Proofs.YtadipinnbehhhaaGreatDoor
namespace Go.Proofs.YtadipinnbehhhaaGreatDoor
open Go.RowKit

def loB (v n : Nat) : List Int := (List.range n).map fun i => ((v / 256 ^ i % 256 : Nat) : Int)
theorem loB_len (v n : Nat) : (loB v n).length = n := by simp [loB]
theorem loB_succ (v n : Nat) : loB v (n + 1) = loB v n ++ [((v / 256 ^ n % 256 : Nat) : Int)] := by simp [loB, List.range_succ]
theorem by8_app (a b : List Int) : by8 (a ++ b) = by8 a ++ by8 b := by simp [by8]
set_option maxRecDepth 100000 in
set_option maxHeartbeats 4000000 in
theorem rnumber_any (base : Nat) (s0 : Value) (v n : Nat) (xs : List Int) (w : World) (ho : w.ownsRow base 5 1 s0 xs.length (by8 xs)) (hv : v < 18446744073709551616) (hn : n + xs.length ≤ 1099511627776) (hb : base ≤ w.heap.size) :
    Calls Tryz.prog 200 #[s0, .int .u64 v, .int .i64 n] w fun e w' => ∃ s, e = .returned s ∧ w'.ownsRow base 5 1 s (xs ++ loB v n).length (by8 (xs ++ loB v n)) ∧ Keep (fun b => s0.ownBlock = some b) w w' ∧ (s.ownBlock = s0.ownBlock ∨ ∃ g, s.ownBlock = some g ∧ w.heap.size ≤ g) := by
  have HO := Hid.intro_ ho
  clear ho
  obtain ⟨i0, hi0, hz0, hz1, hz2⟩ := info_parts info_u8
  go_enter Tryz.func200, Tryz.ntmps200
  go_wp2
  go_loopw [0, 1, 7] (fun s x i wr => ∃ (k : Nat) (r : Value), k ≤ n ∧ r = s ∧ i = .int .i64 k ∧ x = .int .u64 ((v / 256 ^ k : Nat) : Int) ∧ wr.ownsRow base 5 1 r (xs ++ loB v k).length (by8 (xs ++ loB v k)) ∧ Keep (fun b => s0.ownBlock = some b) w wr ∧ (r.ownBlock = s0.ownBlock ∨ ∃ g, r.ownBlock = some g ∧ w.heap.size ≤ g)) (fun _ _ i _ => n - (intOf i).toNat)
  case atStart => exact ⟨0, s0, Nat.zero_le _, rfl, rfl, by simp, by simpa [loB] using HO.out, Keep.refl _ _, .inl rfl⟩
  case round =>
    obtain ⟨k, r, hk, rfl, rfl, rfl, how, hkw, hbl⟩ := hrel
    have HW := Hid.intro_ how
    have HB := Hid.intro_ hbl
    clear how hbl
    by_cases hlt : k < n
    · have hlen : (xs ++ loB v k).length = xs.length + k := by rw [List.length_append, loB_len]
      have hy : v / 256 ^ k < 18446744073709551616 := Nat.lt_of_le_of_lt (Nat.div_le_self _ _) hv
      have hnx : v / 256 ^ (k + 1) = v / 256 ^ k / 256 := by rw [Nat.pow_succ, Nat.div_div_eq_div_mul]
      have HNX := Hid.intro_ hnx
      clear hnx
      obtain ⟨y, hyy⟩ : ∃ y, y = v / 256 ^ k := ⟨_, rfl⟩
      rw [← hyy] at hy HNX ⊢
      have HYY := Hid.intro_ hyy
      clear hyy
      go_wp2_with (at_builtin; refine wpList_append_own_at _ rfl (.tmp 13) (.tmp 17) 161 rfl base 5 i0 (.int .u8 0) 1 1 Tryz.underlying161 hi0 hz0 hz1 hz2 rfl (by decide) r (xs ++ loB v k).length (by8 (xs ++ loB v k)) (by simp [Act.eval]) (own_keep HW.out ((Keep.refl Nil _).alloc _) (fun g _ h => h)) ⟨wr.heap.size, 0, none⟩ 1 1 [.int .u8 ((y % 256 : Nat) : Int)] (by simp [Act.eval]) rfl (one_new _ _ _) (by simp [Value.oneCell']) (by unfold maxLen; omega) (by omega) (by have := hkw.size; simp; omega) ?_; intro s1 w1 ho1 hg1 _ hs1)
      have hnew : by8 (xs ++ loB v k) ++ [Value.int .u8 ((y % 256 : Nat) : Int)] = by8 (xs ++ loB v (k + 1)) := by
        rw [loB_succ, ← List.append_assoc, by8_app (xs ++ loB v k), HYY.out]; rfl
      have hlen2 : (xs ++ loB v k).length + 1 = (xs ++ loB v (k + 1)).length := by rw [List.length_append, List.length_append, loB_len, loB_len]; omega
      rw [hnew, hlen2] at ho1
      have k1 : Keep (fun b => r.ownBlock = some b) wr w1 := (((Keep.refl Nil wr).alloc _).mono (fun _ _ h => h.elim)).then_ (Keep.of_grown hg1)
      have k2 : Keep (fun b => s0.ownBlock = some b) w w1 := hkw.trans k1 (fun b hb e => by
        rcases HB.out with h | ⟨g, h, hg⟩
        · rw [← h]; exact e
        · rw [h] at e; injection e with e; omega)
      go_roundw
      case rel => exact ⟨k + 1, s1, by omega, rfl, by go_num, by rw [HNX.out]; rfl, ho1, k2, by
        rcases hs1 with h | h
        · rcases HB.out with h2 | ⟨g, h2, hg⟩
          · exact .inl (h.trans h2)
          · exact .inr ⟨g, h.trans h2, hg⟩
        · exact .inr ⟨_, h, by have := hkw.size; simp; omega⟩⟩
      case measure => simp [intOf]; omega
    · obtain rfl : k = n := by omega
      go_wp2
      go_ret
      exact ⟨r, rfl, HW.out, hkw, HB.out⟩
end Go.Proofs.YtadipinnbehhhaaGreatDoor
namespace Go.Proofs.YtadipinnbehhhaaGreatDoor

def bit1 (s : Nat) : Nat := (s >>> 1) ^^^ (if s.testBit 0 = true then 3988292384 else 0)
def crcByte (s c : Nat) : Nat := bit1 (bit1 (bit1 (bit1 (bit1 (bit1 (bit1 (bit1 (s ^^^ c))))))))
def crcAll (s : Nat) (bs : List Nat) : Nat := bs.foldl crcByte s
theorem bit1_xor (a b : Nat) : bit1 (a ^^^ b) = bit1 a ^^^ bit1 b := by
  unfold bit1
  rw [Nat.shiftRight_xor_distrib, Nat.testBit_xor]
  have e : ∀ x y : Bool, (if (x ^^ y) = true then 3988292384 else 0) = (if x = true then 3988292384 else 0) ^^^ (if y = true then 3988292384 else 0) := by decide
  rw [e]
  generalize (if a.testBit 0 = true then 3988292384 else 0) = p
  generalize (if b.testBit 0 = true then 3988292384 else 0) = q
  rw [Nat.xor_assoc, Nat.xor_assoc]
  congr 1
  rw [← Nat.xor_assoc, ← Nat.xor_assoc, Nat.xor_comm (b >>> 1) p]
theorem bit1_even (a : Nat) : bit1 (2 * a) = a := by
  unfold bit1
  have h1 : (2 * a).testBit 0 = false := by simp
  rw [h1, if_neg (by decide), Nat.xor_zero, Nat.shiftRight_eq_div_pow]
  omega
def half (i : Nat) : Nat := [0, 498536548, 997073096, 651767980, 1994146192, 1802195444, 1303535960, 1342533948, 3988292384, 4027552580, 3604390888, 3412177804, 2607071920, 2262029012, 2685067896, 3183342108].getD i 0
theorem half_eq : ∀ i, i < 16 → bit1 (bit1 (bit1 (bit1 i))) = half i := by decide
theorem half_lt : ∀ i, i < 16 → half i < 4294967296 := by decide
theorem split16 (s : Nat) : s = (16 * (s / 16)) ^^^ (s % 16) := by
  apply Nat.eq_of_testBit_eq
  intro i
  have e1 : 16 * (s / 16) = (s >>> 4) <<< 4 := by rw [Nat.shiftRight_eq_div_pow, Nat.shiftLeft_eq]; omega
  have e2 : s % 16 = s % 2 ^ 4 := rfl
  rw [Nat.testBit_xor, e1, e2, Nat.testBit_shiftLeft, Nat.testBit_shiftRight, Nat.testBit_mod_two_pow]
  by_cases h : 4 ≤ i
  · have : ¬ i < 4 := by omega
    simp [h, this]
  · have : i < 4 := by omega
    simp [h, this]
theorem nibble (s : Nat) : bit1 (bit1 (bit1 (bit1 s))) = (s / 16) ^^^ half (s % 16) := by
  conv => lhs; rw [split16 s]
  rw [bit1_xor, bit1_xor, bit1_xor, bit1_xor, half_eq _ (Nat.mod_lt _ (by decide))]
  congr 1
  rw [show 16 * (s / 16) = 2 * (2 * (2 * (2 * (s / 16)))) from by omega, bit1_even, bit1_even, bit1_even, bit1_even]
theorem crcByte_nibbles (s c : Nat) : crcByte s c = ((((s ^^^ c) / 16) ^^^ half ((s ^^^ c) % 16)) / 16) ^^^ half ((((s ^^^ c) / 16) ^^^ half ((s ^^^ c) % 16)) % 16) := by
  unfold crcByte
  rw [nibble (s ^^^ c), nibble]
def crc (bs : List Nat) : Nat := 4294967295 - crcAll 4294967295 bs
end Go.Proofs.YtadipinnbehhhaaGreatDoor
namespace Go.Proofs.YtadipinnbehhhaaGreatDoor
open Go.RowKit

def HalvesAt (w : World) : Prop := ∀ i, i < 16 → w.cell? ⟨11, i, none⟩ = some (.int .u32 (half i))
theorem u32_xor_nat (a b : Nat) (ha : a < 4294967296) (hb : b < 4294967296) : bits .xor .u32 (a : Int) (b : Int) = ((a ^^^ b : Nat) : Int) := by
  have hx : a ^^^ b < 2 ^ 32 := Nat.xor_lt_two_pow (by omega) (by omega)
  show IntKind.u32.wrap ((BitVec.ofInt 32 (a : Int) ^^^ BitVec.ofInt 32 (b : Int)).toNat : Int) = _
  rw [BitVec.toNat_xor, ofInt_u32 a ha, ofInt_u32 b hb, IntKind.wrap_u32']
  omega
theorem u32_low4 (a : Nat) (ha : a < 4294967296) : bits .and .u32 (a : Int) 15 = ((a % 16 : Nat) : Int) := by
  have h := u32_and_nat a 15 ha (by decide)
  have e : a &&& 15 = a % 16 := Nat.and_two_pow_sub_one_eq_mod a 4
  rw [e] at h
  exact h
theorem not32 (x : Nat) (hx : x < 4294967296) : 4294967295 ^^^ x = 4294967295 - x := by
  have h : BitVec.allOnes 32 ^^^ BitVec.ofNat 32 x = ~~~ (BitVec.ofNat 32 x) := BitVec.allOnes_xor
  have h2 := congrArg BitVec.toNat h
  rw [BitVec.toNat_xor, BitVec.toNat_not, BitVec.toNat_allOnes, BitVec.toNat_ofNat, Nat.mod_eq_of_lt (show x < 2 ^ 32 by omega)] at h2
  exact h2
set_option maxRecDepth 100000 in
set_option maxHeartbeats 2000000 in
theorem sum_any (g off cap : Nat) (bs : List Nat) (w : World) (hc : ∀ (j : Nat) (c : Nat), bs[j]? = some c → w.cell? ⟨g, off + j, none⟩ = some (.int .u8 c)) (h8 : ∀ c ∈ bs, c < 256) (hl : bs.length ≤ 9223372036854775807) (hh : HalvesAt w) :
    Calls Tryz.prog 272 #[.slice (some ⟨g, off, none⟩) bs.length cap] w fun e w' => e = .returned (.int .u32 (crc bs)) ∧ w' = w := by
  have HC := Hid.intro_ hc
  have H8 := Hid.intro_ h8
  have HH := Hid.intro_ hh
  clear hc h8 hh
  go_enter Tryz.func272, Tryz.ntmps272
  go_wp2
  go_loop [3, 8] (fun s i => ∃ k x : Nat, k ≤ bs.length ∧ i = .int .i64 k ∧ s = .int .u32 x ∧ x < 4294967296 ∧ x = crcAll 4294967295 (bs.take k)) (fun _ i => bs.length - (intOf i).toNat)
  case atStart => exact ⟨0, 4294967295, Nat.zero_le _, rfl, rfl, by decide, rfl⟩
  case round =>
    obtain ⟨k, x, hk, rfl, rfl, hx, hs⟩ := hrel
    have HS := Hid.intro_ hs
    clear hs
    by_cases hlt : k < bs.length
    · obtain ⟨c, hcc⟩ : ∃ c, bs[k]? = some c := ⟨_, List.getElem?_eq_getElem hlt⟩
      have c0 := HC.out k c hcc
      have hc8 := H8.out c (List.mem_of_getElem? hcc)
      have HCC := Hid.intro_ hcc
      clear hcc
      have e1 := u32_xor_nat x c hx (by omega)
      obtain ⟨y, hy⟩ : ∃ y, y = x ^^^ c := ⟨_, rfl⟩
      have hy32 : y < 4294967296 := by rw [hy]; exact Nat.xor_lt_two_pow (n := 32) (by omega) (by omega)
      rw [← hy] at e1
      have HY := Hid.intro_ hy
      clear hy
      have e2 := u32_low4 y hy32
      have t1 := HH.out (y % 16) (Nat.mod_lt _ (by decide))
      have e3 : bits .xor .u32 ((y : Int) / 16) ((half (y % 16) : Nat) : Int) = (((y / 16) ^^^ half (y % 16) : Nat) : Int) := u32_xor_nat (y / 16) (half (y % 16)) (by omega) (half_lt _ (Nat.mod_lt _ (by decide)))
      obtain ⟨z, hz⟩ : ∃ z, z = (y / 16) ^^^ half (y % 16) := ⟨_, rfl⟩
      have hz32 : z < 4294967296 := by rw [hz]; exact Nat.xor_lt_two_pow (n := 32) (by omega) (by have := half_lt (y % 16) (Nat.mod_lt _ (by decide)); omega)
      rw [← hz] at e3
      have HZ := Hid.intro_ hz
      clear hz
      have e4 := u32_low4 z hz32
      have t2 := HH.out (z % 16) (Nat.mod_lt _ (by decide))
      have e5 : bits .xor .u32 ((z : Int) / 16) ((half (z % 16) : Nat) : Int) = (((z / 16) ^^^ half (z % 16) : Nat) : Int) := u32_xor_nat (z / 16) (half (z % 16)) (by omega) (half_lt _ (Nat.mod_lt _ (by decide)))
      obtain ⟨v, hv⟩ : ∃ v, v = (z / 16) ^^^ half (z % 16) := ⟨_, rfl⟩
      have hv32 : v < 4294967296 := by rw [hv]; exact Nat.xor_lt_two_pow (n := 32) (by omega) (by have := half_lt (z % 16) (Nat.mod_lt _ (by decide)); omega)
      rw [← hv] at e5
      have hstep : v = crcAll 4294967295 (bs.take (k + 1)) := by
        rw [hv, HZ.out, HY.out, ← crcByte_nibbles, HS.out]
        have htk : bs.take (k + 1) = bs.take k ++ [c] := by
          rw [List.take_add_one, HCC.out]; rfl
        rw [htk]
        simp [crcAll]
      have HST := Hid.intro_ hstep
      clear hv hstep
      go_wp2
      go_round
      case rel => exact ⟨k + 1, v, by omega, by go_num, rfl, hv32, HST.out⟩
      case measure => simp [intOf]; omega
    · have hx2 : x = crcAll 4294967295 bs := by rw [HS.out, List.take_of_length_le (by omega)]
      have HX := Hid.intro_ hx2
      clear hx2
      go_wp2
      go_ret
      refine ⟨?_, rfl⟩
      have hm : IntKind.u32.max = ((4294967295 : Nat) : Int) := rfl
      have hn := u32_xor_nat 4294967295 x (by decide) hx
      rw [not32 x hx] at hn
      have hcr : crc bs = 4294967295 - x := by rw [HX.out]; rfl
      exact congrArg (fun z => Ending.returned (.int .u32 z)) (by rw [hm, hcr]; exact hn)
end Go.Proofs.YtadipinnbehhhaaGreatDoor
namespace Go.Proofs.YtadipinnbehhhaaGreatDoor
open Go.RowKit

def bitsN : Nat → Nat → Nat
  | 0, s => s
  | n + 1, s => bit1 (bitsN n s)
theorem bit1_odd {y : Nat} (h : y % 2 = 1) : bit1 y = (y / 2) ^^^ 3988292384 := by
  unfold bit1
  have : y.testBit 0 = true := by rw [Nat.testBit_zero]; simpa using h
  rw [if_pos this, Nat.shiftRight_eq_div_pow]
theorem bit1_ev {y : Nat} (h : ¬ y % 2 = 1) : bit1 y = y / 2 := by
  unfold bit1
  have : y.testBit 0 = false := by rw [Nat.testBit_zero]; simpa using h
  rw [if_neg (by simp [this]), Nat.shiftRight_eq_div_pow, Nat.xor_zero]
set_option maxRecDepth 100000 in
set_option maxHeartbeats 4000000 in
theorem rsum_any (g off cap : Nat) (bs : List Nat) (w : World) (hc : ∀ (j : Nat) (c : Nat), bs[j]? = some c → w.cell? ⟨g, off + j, none⟩ = some (.int .u8 c)) (h8 : ∀ c ∈ bs, c < 256) (hl : bs.length ≤ 9223372036854775807) :
    Calls Tryz.prog 146 #[.slice (some ⟨g, off, none⟩) bs.length cap] w fun e w' => e = .returned (.int .u32 (crc bs)) ∧ w' = w := by
  have HC := Hid.intro_ hc
  have H8 := Hid.intro_ h8
  clear hc h8
  go_enter Tryz.func146, Tryz.ntmps146
  go_wp2
  go_loop [3, 4] (fun s i => ∃ k x : Nat, k ≤ bs.length ∧ i = .int .i64 k ∧ s = .int .u32 x ∧ x < 4294967296 ∧ x = crcAll 4294967295 (bs.take k)) (fun _ i => bs.length - (intOf i).toNat)
  case atStart => exact ⟨0, 4294967295, Nat.zero_le _, rfl, rfl, by decide, rfl⟩
  case round =>
    obtain ⟨k, x, hk, rfl, rfl, hx, hs⟩ := hrel
    have HS := Hid.intro_ hs
    clear hs
    by_cases hlt : k < bs.length
    · obtain ⟨c, hcc⟩ : ∃ c, bs[k]? = some c := ⟨_, List.getElem?_eq_getElem hlt⟩
      have c0 := HC.out k c hcc
      have hc8 := H8.out c (List.mem_of_getElem? hcc)
      have hnext : crcAll 4294967295 (bs.take (k + 1)) = bitsN 8 (x ^^^ c) := by
        have htk : bs.take (k + 1) = bs.take k ++ [c] := by rw [List.take_add_one, hcc]; rfl
        rw [htk, HS.out]
        simp [crcAll, crcByte, bitsN]
      have HN := Hid.intro_ hnext
      clear hcc hnext
      have e1 := u32_xor_nat x c hx (by omega)
      have hy0 : x ^^^ c < 4294967296 := Nat.xor_lt_two_pow (n := 32) (by omega) (by omega)
      generalize x ^^^ c = y0 at *
      go_wp2
      go_loop [3, 5] (fun s j => ∃ n y : Nat, n ≤ 8 ∧ j = .int .i64 n ∧ s = .int .u32 y ∧ y < 4294967296 ∧ y = bitsN n y0) (fun _ j => 8 - (intOf j).toNat)
      case atStart => exact ⟨0, y0, by omega, rfl, rfl, hy0, rfl⟩
      case round =>
        obtain ⟨n, y, hn, rfl, rfl, hy, hb⟩ := hrel
        have HB := Hid.intro_ hb
        clear hb
        by_cases h8 : n < 8
        · by_cases ho : y % 2 = 1
          · have q : (((y : Int) % 2) == 1) = true := by simp; omega
            have e2 : bits .xor .u32 ((y : Int) / 2) 3988292384 = (((y / 2) ^^^ 3988292384 : Nat) : Int) := u32_xor_nat (y / 2) 3988292384 (by omega) (by decide)
            have hst : bitsN (n + 1) y0 = (y / 2) ^^^ 3988292384 := by show bit1 (bitsN n y0) = _; rw [← HB.out, bit1_odd ho]
            have HST := Hid.intro_ hst
            have hz : (y / 2) ^^^ 3988292384 < 4294967296 := Nat.xor_lt_two_pow (n := 32) (by omega) (by decide)
            generalize (y / 2) ^^^ 3988292384 = z at *
            clear ho hst
            go_wp2
            go_round
            case rel => exact ⟨n + 1, z, by omega, by go_num, rfl, hz, HST.out.symm⟩
            case measure => simp [intOf]; omega
          · have q : (((y : Int) % 2) == 1) = false := by simp; omega
            have hst : bitsN (n + 1) y0 = y / 2 := by show bit1 (bitsN n y0) = _; rw [← HB.out, bit1_ev ho]
            have HST := Hid.intro_ hst
            clear ho hst
            go_wp2
            go_round
            case rel => exact ⟨n + 1, y / 2, by omega, by go_num, rfl, by omega, HST.out.symm⟩
            case measure => simp [intOf]; omega
        · obtain rfl : n = 8 := by omega
          go_wp2
          go_round
          case rel => exact ⟨k + 1, y, by omega, by go_num, rfl, hy, by rw [HN.out]; exact HB.out⟩
          case measure => simp [intOf]; omega
    · have hx2 : x = crcAll 4294967295 bs := by rw [HS.out, List.take_of_length_le (by omega)]
      have HX := Hid.intro_ hx2
      clear hx2
      go_wp2
      go_ret
      refine ⟨?_, rfl⟩
      have hcr : crc bs = 4294967295 - x := by rw [HX.out]; rfl
      exact congrArg (fun z => Ending.returned (.int .u32 z)) (by rw [hcr]; omega)
end Go.Proofs.YtadipinnbehhhaaGreatDoor
namespace Go.Proofs.YtadipinnbehhhaaGreatDoor
open Go.RowKit

def fit (b : Int) : Int := if b < 64 ∨ 65536 < b ∨ ¬ b % 32 = 0 then 0 else b / 32 - 1
set_option maxHeartbeats 1000000 in
theorem fit_any (b : Int) (w : World) : Calls Tryz.prog 122 #[.int .i64 b] w fun e w' => e = .returned (.int .i64 (fit b)) ∧ w' = w := by
  unfold fit
  by_cases h1 : b < 64
  · rw [if_pos (.inl h1)]
    go_enter Tryz.func122, Tryz.ntmps122
    go_wp2
    go_ret
    exact ⟨rfl, rfl⟩
  by_cases h2 : 65536 < b
  · rw [if_pos (.inr (.inl h2))]
    go_enter Tryz.func122, Tryz.ntmps122
    go_wp2
    go_ret
    exact ⟨rfl, rfl⟩
  by_cases h3 : b % 32 = 0
  · rw [if_neg (by omega)]
    obtain ⟨n, rfl⟩ : ∃ n : Nat, b = n := ⟨b.toNat, by omega⟩
    have q : (((n : Int) % 32) == 0) = true := by simp; omega
    go_enter Tryz.func122, Tryz.ntmps122
    go_wp2
    go_ret
    exact ⟨rfl, rfl⟩
  · rw [if_pos (.inr (.inr h3))]
    obtain ⟨n, rfl⟩ : ∃ n : Nat, b = n := ⟨b.toNat, by omega⟩
    have q : (((n : Int) % 32) == 0) = false := by simp; omega
    go_enter Tryz.func122, Tryz.ntmps122
    go_wp2
    go_ret
    exact ⟨rfl, rfl⟩
set_option maxHeartbeats 1000000 in
theorem rfit_any (b : Int) (w : World) : Calls Tryz.prog 10 #[.int .i64 b] w fun e w' => e = .returned (.int .i64 (fit b)) ∧ w' = w := by
  unfold fit
  by_cases h1 : b < 64
  · rw [if_pos (.inl h1)]
    go_enter Tryz.func10, Tryz.ntmps10
    go_wp2
    go_ret
    exact ⟨rfl, rfl⟩
  by_cases h2 : 65536 < b
  · rw [if_pos (.inr (.inl h2))]
    go_enter Tryz.func10, Tryz.ntmps10
    go_wp2
    go_ret
    exact ⟨rfl, rfl⟩
  by_cases h3 : b % 32 = 0
  · rw [if_neg (by omega)]
    obtain ⟨n, rfl⟩ : ∃ n : Nat, b = n := ⟨b.toNat, by omega⟩
    have q : (((n : Int) % 32) == 0) = true := by simp; omega
    go_enter Tryz.func10, Tryz.ntmps10
    go_wp2
    go_ret
    exact ⟨rfl, rfl⟩
  · rw [if_pos (.inr (.inr h3))]
    obtain ⟨n, rfl⟩ : ∃ n : Nat, b = n := ⟨b.toNat, by omega⟩
    have q : (((n : Int) % 32) == 0) = false := by simp; omega
    go_enter Tryz.func10, Tryz.ntmps10
    go_wp2
    go_ret
    exact ⟨rfl, rfl⟩
set_option maxHeartbeats 1000000 in
theorem known_any (k : Int) (w : World) : Calls Tryz.prog 124 #[.int .i64 k] w fun e w' => e = .returned (.bool (decide (1 ≤ k) && decide (k ≤ 5))) ∧ w' = w := by
  by_cases h1 : 1 ≤ k
  · rw [decide_eq_true h1, Bool.true_and]
    go_enter Tryz.func124, Tryz.ntmps124
    go_wp2
    go_ret
    exact ⟨rfl, rfl⟩
  · rw [decide_eq_false h1, Bool.false_and]
    have q : decide (1 ≤ k) = false := decide_eq_false h1
    clear h1
    go_enter Tryz.func124, Tryz.ntmps124
    go_wp2
    go_ret
    exact ⟨rfl, rfl⟩
end Go.Proofs.YtadipinnbehhhaaGreatDoor
namespace Go.Proofs.YtadipinnbehhhaaGreatDoor
open Go.RowKit

structure R4 where
  a : Nat
  b : Nat
  c : Nat
  d : Nat
def R4.ws (r : R4) : List Nat := [r.a, r.b, r.c, r.d]
structure R4.Ok (r : R4) : Prop where
  a : r.a < 18446744073709551616
  b : r.b < 18446744073709551616
  c : r.c < 18446744073709551616
  d : r.d < 18446744073709551616
def rcCells (l : List R4) : List Value := l.flatMap fun r => r.ws.map fun (x : Nat) => Value.int .u64 x
def R4.bytes (r : R4) : List Int := loB r.a 8 ++ loB r.b 8 ++ loB r.c 8 ++ loB r.d 8
def rcBytes (l : List R4) : List Int := l.flatMap R4.bytes
def encBody (kind : Int) (place : Nat) (l : List R4) (block : Nat) : List Int :=
  [83, 84, 82, 65, 1, kind] ++ loB l.length 2 ++ loB place 8 ++ loB 0 12 ++ rcBytes l ++ loB 0 (block - 32 - 32 * l.length)
def natB (bs : List Int) : List Nat := bs.map Int.toNat
def encB (kind : Int) (place : Nat) (l : List R4) (block : Nat) : List Int := encBody kind place l block ++ loB (crc (natB (encBody kind place l block))) 4
theorem rcBytes_len (l : List R4) : (rcBytes l).length = 32 * l.length := by
  induction l with
  | nil => rfl
  | cons r l ih =>
    have : rcBytes (r :: l) = r.bytes ++ rcBytes l := rfl
    rw [this, List.length_append, ih]
    simp [R4.bytes, loB_len]; omega
theorem encBody_len {kind : Int} {place block : Nat} {l : List R4} (h : 32 * l.length + 32 ≤ block) : (encBody kind place l block).length = block - 4 := by
  unfold encBody
  simp only [List.length_append, loB_len, rcBytes_len, List.length_cons, List.length_nil]
  omega
theorem loB_range (v n : Nat) : ∀ x ∈ loB v n, 0 ≤ x ∧ x ≤ 255 := by
  intro x hx
  obtain ⟨i, _, rfl⟩ := List.mem_map.1 hx
  have := Nat.mod_lt (v / 256 ^ i) (show 0 < 256 by decide)
  omega
theorem rcBytes_range (l : List R4) : ∀ x ∈ rcBytes l, 0 ≤ x ∧ x ≤ 255 := by
  intro x hx
  obtain ⟨r, _, hr⟩ := List.mem_flatMap.1 hx
  simp only [R4.bytes, List.mem_append] at hr
  rcases hr with ((hr | hr) | hr) | hr <;> exact loB_range _ _ x hr
theorem encBody_range {kind : Int} {place block : Nat} {l : List R4} (hk : 1 ≤ kind ∧ kind ≤ 255) : ∀ x ∈ encBody kind place l block, 0 ≤ x ∧ x ≤ 255 := by
  intro x hx
  simp only [encBody, List.mem_append, List.mem_cons, List.not_mem_nil, or_false] at hx
  rcases hx with ((((hx | hx) | hx) | hx) | hx) | hx
  · rcases hx with rfl | rfl | rfl | rfl | rfl | rfl <;> omega
  · exact loB_range _ _ x hx
  · exact loB_range _ _ x hx
  · exact loB_range _ _ x hx
  · exact rcBytes_range l x hx
  · exact loB_range _ _ x hx
end Go.Proofs.YtadipinnbehhhaaGreatDoor
namespace Go.Proofs.YtadipinnbehhhaaGreatDoor
open Go.RowKit

theorem six_own (w : World) (a b c d e f : Value) : (w.alloc (.cells #[a, b, c, d, e, f] 5)).ownsRow w.heap.size 5 1 (.slice (some ⟨w.heap.size, 0, none⟩) 6 6) 6 [a, b, c, d, e, f] :=
  ⟨rfl, .inr ⟨w.heap.size, 6, #[a, b, c, d, e, f], rfl, Nat.le_refl _, Blk.new w _ _, Nat.le_refl _, by decide, rfl, rfl⟩⟩
theorem rc_at : ∀ (l : List R4) (k j : Nat) (q : R4), l[k]? = some q → j < 4 → (rcCells l)[k * 4 + j]? = some (.int .u64 ((q.ws.getD j 0 : Nat) : Int))
  | [], _, _, _, h, _ => by simp at h
  | r :: l, 0, j, q, h, hj => by
    simp only [List.getElem?_cons_zero, Option.some.injEq] at h
    subst h
    have e : rcCells (r :: l) = (r.ws.map fun (x : Nat) => Value.int .u64 x) ++ rcCells l := rfl
    rw [e, List.getElem?_append_left (by simp [R4.ws]; omega)]
    match j, hj with
    | 0, _ => rfl
    | 1, _ => rfl
    | 2, _ => rfl
    | 3, _ => rfl
  | r :: l, k + 1, j, q, h, hj => by
    have ih := rc_at l k j q (by simpa using h) hj
    have e : rcCells (r :: l) = (r.ws.map fun (x : Nat) => Value.int .u64 x) ++ rcCells l := rfl
    rw [e, List.getElem?_append_right (by simp [R4.ws]; omega)]
    have : (k + 1) * 4 + j - (r.ws.map fun (x : Nat) => Value.int .u64 (x : Int)).length = k * 4 + j := by simp [R4.ws]; omega
    rw [this]
    exact ih
theorem ws_lt {q : R4} (h : q.Ok) (j : Nat) : q.ws.getD j 0 < 18446744073709551616 := by
  obtain ⟨a, b, c, d⟩ := h
  match j with
  | 0 => exact a
  | 1 => exact b
  | 2 => exact c
  | 3 => exact d
  | n + 4 => simp [R4.ws]
theorem ws_take (q : R4) (j : Nat) (hj : j < 4) : q.ws.take (j + 1) = q.ws.take j ++ [q.ws.getD j 0] := by
  match j, hj with
  | 0, _ => rfl
  | 1, _ => rfl
  | 2, _ => rfl
  | 3, _ => rfl
theorem flat8_len (xs : List Nat) : (xs.flatMap (fun x => loB x 8)).length = 8 * xs.length := by
  induction xs with
  | nil => rfl
  | cons a l ih => rw [List.flatMap_cons, List.length_append, ih, loB_len]; simp; omega
theorem own_base {w : World} {base : Nat} {e : TypeId} {size n : Nat} {v : Value} {xs : List Value} (h : w.ownsRow base e size v n xs) {g : Nat} (hg : v.ownBlock = some g) : base ≤ g := (h.lt g hg).1
theorem keep_own {w w1 w2 : World} {base : Nat} {e : TypeId} {size n : Nat} {v : Value} {xs : List Value} (k : Keep Nil w w1) (h : w1.ownsRow base e size v n xs) (hb : w.heap.size ≤ base) (k2 : Keep (fun b => v.ownBlock = some b) w1 w2) : Keep Nil w w2 :=
  k.trans k2 (fun b hlt e => by have := own_base h e; omega)
theorem own_slice {w : World} {base : Nat} {e : TypeId} {n : Nat} {v : Value} {xs : List Value} (h : w.ownsRow base e 1 v n xs) (hn : 0 < n) : ∃ g cap, v = .slice (some ⟨g, 0, none⟩) n cap ∧ n ≤ cap ∧ base ≤ g ∧ ∀ (j : Nat) (u : Value), xs[j]? = some u → w.cell? ⟨g, 0 + j, none⟩ = some u := by
  rcases h.2 with ⟨_, h0⟩ | ⟨g, cap, cur, e, hb, hh, hle, _⟩
  · omega
  · subst e
    refine ⟨g, cap, rfl, hle, hb, fun j u hu => ?_⟩
    obtain ⟨ad, e, hc⟩ := own_rd h j u hu
    injection e with e
    subst e
    by_cases h0 : j = 0
    · subst h0; simpa [Addr.add] using hc
    · simpa [Addr.add, h0] using hc
theorem natB_cell {bs : List Int} (h : ∀ x ∈ bs, 0 ≤ x ∧ x ≤ 255) {j c : Nat} (hj : (natB bs)[j]? = some c) : (by8 bs)[j]? = some (.int .u8 (c : Int)) ∧ c < 256 := by
  unfold natB at hj
  rw [List.getElem?_map, Option.map_eq_some_iff] at hj
  obtain ⟨x, hx, rfl⟩ := hj
  have := h x (List.mem_of_getElem? hx)
  refine ⟨?_, by omega⟩
  unfold by8
  rw [List.getElem?_map, hx, Option.map_some]
  congr 2
  omega
theorem rnumber_m (base : Nat) (s0 : Value) (v n : Nat) (x m : Int) (xs : List Int) (w : World) (ho : w.ownsRow base 5 1 s0 xs.length (by8 xs)) (hx : x = (v : Int)) (hm : m = (n : Int)) (hv : v < 18446744073709551616) (hn : n + xs.length ≤ 1099511627776) (hb : base ≤ w.heap.size) :
    Calls Tryz.prog 200 #[s0, .int .u64 x, .int .i64 m] w fun e w' => ∃ s, e = .returned s ∧ w'.ownsRow base 5 1 s (xs ++ loB v n).length (by8 (xs ++ loB v n)) ∧ Keep (fun b => s0.ownBlock = some b) w w' ∧ (s.ownBlock = s0.ownBlock ∨ ∃ g, s.ownBlock = some g ∧ w.heap.size ≤ g) := by
  subst hx hm
  exact rnumber_any base s0 v n xs w ho hv hn hb
set_option maxRecDepth 100000 in
set_option maxHeartbeats 4000000 in
theorem rencode_good (kind place block lg lo lc : Nat) (l : List R4) (w : World) (hk : 1 ≤ kind ∧ kind ≤ 255) (hp : place < 9223372036854775808) (hb : 64 ≤ block ∧ block ≤ 65536 ∧ block % 32 = 0) (hl : 1 ≤ l.length) (hf : 32 * l.length + 32 ≤ block)
    (hc : ∀ (j : Nat) (u : Value), (rcCells l)[j]? = some u → w.cell? ⟨lg, lo + j, none⟩ = some u) (hr : ∀ r ∈ l, r.Ok) :
    Calls Tryz.prog 152 #[.int .i64 kind, .int .i64 place, .slice (some ⟨lg, lo, none⟩) l.length lc, .int .i64 block] w fun e w' =>
      ∃ s, e = .returned (.tuple #[s, .int .i64 0]) ∧ w'.ownsRow w.heap.size 5 1 s block (by8 (encB kind place l block)) ∧ Keep Nil w w' := by
  have HC := Hid.intro_ hc
  have HR := Hid.intro_ hr
  have hfit : fit block = ((block / 32 - 1 : Nat) : Int) := by
    unfold fit
    rw [if_neg (by omega)]; omega
  have hft := fun w => rfit_any block w
  rw [hfit] at hft
  have hfz : ¬ ((block / 32 - 1 : Nat) : Int) = 0 := by omega
  have hfl : ¬ ((block / 32 - 1 : Nat) : Int) < (l.length : Int) := by omega
  have hq0 : (((block / 32 - 1 : Nat) : Int) == 0) = false := by rw [beq_eq_false_iff_ne]; omega
  have hl16 : l.length ≤ 2048 := by omega
  generalize block / 32 - 1 = fb at *
  have hlz : ¬ ((l.length : Int) = 0) := by omega
  have hlq : ((l.length : Int) == 0) = false := by rw [beq_eq_false_iff_ne]; omega
  clear hc hr hfit
  have hsix : (w.alloc (.cells #[.int .u8 83, .int .u8 84, .int .u8 82, .int .u8 65, .int .u8 1, .int .u8 kind] 5)).ownsRow w.heap.size 5 1 (.slice (some ⟨w.heap.size, 0, none⟩) 6 6) [83, 84, 82, 65, 1, (kind : Int)].length (by8 [83, 84, 82, 65, 1, (kind : Int)]) := six_own w _ _ _ _ _ _
  go_enter Tryz.func152, Tryz.ntmps152
  go_wp2_with (first
    | (go_at_call 10; refine (hft _).mono ?_; rintro e w' ⟨rfl, hw⟩; obtain rfl := hw.symm)
    | (go_at_call 200
       with_reducible refine (rnumber_m w.heap.size (.slice (some ⟨w.heap.size, 0, none⟩) 6 6) l.length 2 (l.length : Int) 2 [83, 84, 82, 65, 1, (kind : Int)] _ hsix rfl rfl (by omega) (by simp) (by simp)).mono ?_
       rintro e w1 ⟨s1, rfl, ho1, hk1, hb1⟩)
    | (go_at_call 200
       with_reducible refine (rnumber_m w.heap.size s1 place 8 (place : Int) 8 ([83, 84, 82, 65, 1, (kind : Int)] ++ loB l.length 2) _ ho1 rfl rfl (by omega) (by simp [loB_len]) (by have := hk1.size; simp at this; omega)).mono ?_
       rintro e w2 ⟨s2, rfl, ho2, hk2, hb2⟩)
    | (go_at_call 200
       with_reducible refine (rnumber_m w.heap.size s2 0 12 0 12 ([83, 84, 82, 65, 1, (kind : Int)] ++ loB l.length 2 ++ loB place 8) _ ho2 rfl rfl (by omega) (by simp [loB_len]) (by have := hk1.size; have := hk2.size; simp at *; omega)).mono ?_
       rintro e w3 ⟨s3, rfl, ho3, hk3, hb3⟩))
  have z3 : w.heap.size ≤ w3.heap.size := by have := hk1.size; have := hk2.size; have := hk3.size; simp at *; omega
  have kk : Keep Nil w w3 := keep_own (keep_own (keep_own ((Keep.refl Nil w).alloc _) hsix (Nat.le_refl _) hk1) ho1 (Nat.le_refl _) hk2) ho2 (Nat.le_refl _) hk3
  obtain ⟨hd, hhd⟩ : ∃ hd, hd = [83, 84, 82, 65, 1, (kind : Int)] ++ loB l.length 2 ++ loB place 8 ++ loB 0 12 := ⟨_, rfl⟩
  rw [← hhd] at ho3
  have hdl : hd.length = 28 := by rw [hhd]; simp [loB_len]
  clear ho1 ho2 hsix
  go_loopw [10, 11] (fun s i wr => ∃ (k : Nat) (r : Value), k ≤ l.length ∧ r = s ∧ i = .int .i64 k ∧ wr.ownsRow w.heap.size 5 1 r (hd ++ rcBytes (l.take k)).length (by8 (hd ++ rcBytes (l.take k))) ∧ Keep Nil w wr) (fun _ i _ => l.length - (intOf i).toNat)
  case atStart => exact ⟨0, s3, Nat.zero_le _, rfl, rfl, by simpa [rcBytes] using ho3, kk⟩
  case round =>
    obtain ⟨k, r, hk', rfl, rfl, how, hkw⟩ := hrel
    have HW := Hid.intro_ how
    clear how
    by_cases hlt : k < l.length
    · obtain ⟨q, hq⟩ : ∃ q, l[k]? = some q := ⟨_, List.getElem?_eq_getElem hlt⟩
      have hqo := HR.out q (List.mem_of_getElem? hq)
      have HQ := Hid.intro_ hq
      clear hq
      go_wp2
      go_loopw [10, 12] (fun s i wr => ∃ (j : Nat) (r2 : Value), j ≤ 4 ∧ r2 = s ∧ i = .int .i64 j ∧ wr.ownsRow w.heap.size 5 1 r2 (hd ++ rcBytes (l.take k) ++ (q.ws.take j).flatMap (fun x => loB x 8)).length (by8 (hd ++ rcBytes (l.take k) ++ (q.ws.take j).flatMap (fun x => loB x 8))) ∧ Keep Nil w wr) (fun _ i _ => 4 - (intOf i).toNat)
      case atStart => exact ⟨0, r, by omega, rfl, rfl, by simpa using HW.out, hkw⟩
      case round =>
        obtain ⟨j, r2, hj, rfl, rfl, how2, hkw2⟩ := hrel
        have HW2 := Hid.intro_ how2
        clear how2
        by_cases hj4 : j < 4
        · have cw : wr.cell? ⟨lg, lo + k * 4 + j, none⟩ = some (.int .u64 ((q.ws.getD j 0 : Nat) : Int)) := by
            have := HC.out (k * 4 + j) _ (rc_at l k j q HQ.out hj4)
            rw [← Nat.add_assoc] at this
            exact cell_keep this hkw2 (fun h => h)
          have hx := ws_lt hqo j
          have htk := Hid.intro_ (ws_take q j hj4)
          generalize q.ws.getD j 0 = x at *
          have hlen : 8 + (hd ++ rcBytes (l.take k) ++ (q.ws.take j).flatMap (fun x => loB x 8)).length ≤ 1099511627776 := by
            rw [List.length_append, List.length_append, hdl, rcBytes_len, flat8_len, List.length_take, List.length_take]
            omega
          have hsz : w.heap.size ≤ wr.heap.size := hkw2.size
          go_wp2_with (go_at_call 200
                       refine (rnumber_m w.heap.size r2 x 8 (x : Int) 8 _ _ HW2.out rfl rfl hx hlen hsz).mono ?_
                       rintro e w4 ⟨s4, rfl, ho4, hk4, hb4⟩)
          have hX : hd ++ rcBytes (l.take k) ++ (q.ws.take j).flatMap (fun x => loB x 8) ++ loB x 8 = hd ++ rcBytes (l.take k) ++ (q.ws.take (j + 1)).flatMap (fun x => loB x 8) := by
            rw [htk.out, List.flatMap_append]; simp
          rw [hX] at ho4
          have hk5 := keep_own hkw2 HW2.out (Nat.le_refl _) hk4
          go_roundw
          case rel => exact ⟨j + 1, s4, by omega, rfl, by go_num, ho4, hk5⟩
          case measure => simp [intOf]; omega
        · obtain rfl : j = 4 := by omega
          have hX : hd ++ rcBytes (l.take k) ++ (q.ws.take 4).flatMap (fun x => loB x 8) = hd ++ rcBytes (l.take (k + 1)) := by
            have e1 : l.take (k + 1) = l.take k ++ [q] := by rw [List.take_add_one, HQ.out]; rfl
            have e2 : (q.ws.take 4).flatMap (fun x => loB x 8) = q.bytes := by simp [R4.ws, R4.bytes]
            rw [e1, e2]
            simp [rcBytes]
          have how3 := HW2.out
          rw [hX] at how3
          have HW3 := Hid.intro_ how3
          clear how3 hX
          go_wp2
          go_roundw
          case rel => exact ⟨k + 1, r2, by omega, rfl, by go_num, HW3.out, hkw2⟩
          case measure => simp [intOf]; omega
    · obtain rfl : k = l.length := by omega
      have hL := HW.out
      rw [List.take_length] at hL
      have hlen : (hd ++ rcBytes l).length = 28 + 32 * l.length := by rw [List.length_append, hdl, rcBytes_len]
      have hr0 : ∃ g cap, r = .slice (some ⟨g, 0, none⟩) (28 + 32 * l.length) cap := by
        rcases hL.2 with ⟨_, h0⟩ | ⟨g, cap, cur, e, _⟩
        · rw [hlen] at h0; omega
        · rw [hlen] at e; exact ⟨g, cap, e⟩
      obtain ⟨g, cap, rfl⟩ := hr0
      have HL := Hid.intro_ hL
      clear hL
      have hz4 : (block : Int) - 4 - ((28 + 32 * l.length : Nat) : Int) = ((block - 32 - 32 * l.length : Nat) : Int) := by omega
      have hbody : hd ++ rcBytes l ++ loB 0 (block - 32 - 32 * l.length) = encBody kind place l block := by rw [hhd]; rfl
      have hbl : (encBody (kind : Int) place l block).length = block - 4 := encBody_len hf
      have hbr := encBody_range (place := place) (block := block) (l := l) (kind := (kind : Int)) (by omega)
      generalize hB : encBody (kind : Int) place l block = body at *
      have hcr : crc (natB body) < 4294967296 := by unfold crc; omega
      have hm4 : (block : Int) - 4 - (28 + 32 * (l.length : Int)) = ((block - 32 - 32 * l.length : Nat) : Int) := by omega
      have hln : block - 32 - 32 * l.length + (hd ++ rcBytes l).length ≤ 1099511627776 := by omega
      have hzero := rnumber_m w.heap.size _ 0 (block - 32 - 32 * l.length) 0 _ (hd ++ rcBytes l) _ HL.out rfl hm4 (by decide) hln hkw.size
      have HB := Hid.intro_ hB
      have HBR := Hid.intro_ hbr
      have HM4 := Hid.intro_ hm4
      clear hz4 hbr hB hm4
      go_wp2_with (first
        | (go_at_call 200
           with_reducible refine (hzero).mono ?_
           rintro e w5 ⟨s5, rfl, ho5, hk5, hb5⟩
           rw [hbody, hbl] at ho5
           have hk6 := keep_own hkw HL.out (Nat.le_refl _) hk5
           obtain ⟨g5, cap5, rfl, hc5, hg5, hcell⟩ := own_slice ho5 (by omega)
           have hsum := rsum_any g5 0 cap5 (natB body) w5 (fun j c hj => hcell j _ (natB_cell HBR.out hj).1) (fun c hc => by obtain ⟨j, hj⟩ := List.mem_iff_getElem?.1 hc; exact (natB_cell HBR.out hj).2) (by simp [natB, hbl]; omega)
           rw [show (natB body).length = block - 4 by simp [natB, hbl]] at hsum
           have HO5 := Hid.intro_ ho5
           clear hcell ho5 hk5 hb5)
        | (go_at_call 146; refine hsum.mono ?_; rintro e w' ⟨rfl, hw⟩; obtain rfl := hw.symm))
      have hlast := rnumber_m w.heap.size (.slice (some ⟨g5, 0, none⟩) (block - 4) cap5) (crc (natB body)) 4 ((crc (natB body) : Nat) : Int) 4 body w5 (by rw [hbl]; exact HO5.out) rfl rfl (by omega) (by omega) hk6.size
      with_reducible refine hlast.mono ?_
      rintro e w6 ⟨s6, rfl, ho6, hk7, hb6⟩
      have hk8 := keep_own hk6 HO5.out (Nat.le_refl _) hk7
      have hfin : w6.ownsRow w.heap.size 5 1 s6 block (by8 (encB kind place l block)) := by
        unfold encB
        rw [HB.out]
        have e : (body ++ loB (crc (natB body)) 4).length = block := by rw [List.length_append, loB_len, hbl]; omega
        rw [e] at ho6
        exact ho6
      have HFin := Hid.intro_ hfin
      clear hfin ho6 hlast
      go_wp2
      go_ret2
      exact ⟨s6, rfl, HFin.out, hk8⟩
end Go.Proofs.YtadipinnbehhhaaGreatDoor
