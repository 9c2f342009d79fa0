/- Disk: Create in one; Seal; Length; On, Block. Disk: Length; On, Block. Rows of one's own: make, copy and append as steps, and what they keep. Numbers written into bytes. The reference's number: bytes put behind a row of one's own. The sum of bytes: bit by bit, and by half bytes. Plain arithmetic. Sum: the walk. The reference's Sum: the walk. Small functions: how many records a block holds; kinds; numbers brought into a range. The reference's Encode: records as a block. -/
import Derived.OwnWalk
import Derived.Laws.CopyOwn
import Derived.Laws.OwnMore
import Derived.Deep.RegionLaw
import Derived.Maps.AppendAt
import Derived.Laws.BitsAllLaws
import Derived.Test.YtadipinnbehhhaaGreatDoorBuildsRowAB
import Derived.Test.YtadipinnbehhhaaGreatDoorBuildsRowAA
namespace Go.Proofs.YtadipinnbehhhaaGreatDoor
open Go.RowKit

theorem create_any (d : Nat) (D : DSt) (R : DRep) (F : Nat → Prop) (E : Nat → Addr) (s : ByteArray) (w : World) (h : DiskAt w F d D R) (he : Env w F E) :
    Calls Tryz.prog 128 #[.pointer (some ⟨d, 0, none⟩), .string s] w (DPost d F w (D.create s).1 (D.create s).2) := by
  have bad := fun hb => create_bad d D R F E s w h he hb
  cases ho : D.on
  · have e : (D.create s).1 = D := by simp [DSt.create, ho]
    rw [e]
    exact bad (.inl ho)
  cases hn : okName s
  · have e : (D.create s).1 = D := by simp [DSt.create, ho, hn]
    rw [e]
    exact bad (.inr (.inl ⟨ho, hn⟩))
  cases hf : fpos s D.files with
  | some q =>
    have e : (D.create s).1 = D := by simp [DSt.create, ho, hn, hf]
    rw [e]
    exact bad (.inr (.inr ⟨ho, hn, q.1, q.2, hf⟩))
  | none =>
    have e : D.create s = D.outcome true (fun D => D.made s) (partOf fun D => D.made s) := by simp [DSt.create, ho, hn, hf]
    rw [e]
    exact create_num d D R F E s w h he ho hn hf

/-- The file of a name is another one. -/
def DSt.setF (D : DSt) (s : ByteArray) (f : AFile) : DSt := { D with files := updF s (fun _ => f) D.files }

def DSt.seal_ (D : DSt) (s : ByteArray) : DSt × Int := match D.perr s with
  | some k => (D, errNo k)
  | none => match fpos s D.files with
    | none => (D, 0)
    | some (_, f) => if f.done = true then (D, errNo 4) else D.outcome true (fun D => D.setF s { f with done := true }) (partOf fun D => D.setF s { f with done := true })

theorem total_upd {s : ByteArray} {f : AFile} : ∀ {fs : List (ByteArray × AFile)} {i : Nat} {g : AFile}, (fs.map (·.1)).Nodup → fs[i]? = some (s, g) → total (updF s (fun _ => f) fs) + g.blocks.length = total fs + f.blocks.length
  | [], _, _, _, h => by simp at h
  | (k, x) :: fs, i, g, hn, h => by
    simp only [List.map_cons, List.nodup_cons] at hn
    cases i with
    | zero =>
      simp only [List.getElem?_cons_zero, Option.some.injEq, Prod.mk.injEq] at h
      obtain ⟨rfl, rfl⟩ := h
      have : updF k (fun _ => f) fs = fs := by
        unfold updF
        conv => rhs; rw [← List.map_id fs]
        apply List.map_congr_left
        intro p hp
        rw [if_neg]
        · rfl
        · intro e
          exact hn.1 (e ▸ List.mem_map_of_mem (f := (·.1)) hp)
      have e : updF k (fun _ => f) ((k, x) :: fs) = (k, f) :: updF k (fun _ => f) fs := by simp [updF]
      rw [e, this]
      simp [total]; omega
    | succ i =>
      have hne : ¬ k = s := by
        rintro rfl
        exact hn.1 (List.mem_map.2 ⟨(k, g), List.mem_of_getElem? (by simpa using h), rfl⟩)
      have ih := total_upd (f := f) hn.2 (i := i) (g := g) (by simpa using h)
      have e : updF s (fun _ => f) ((k, x) :: fs) = (k, x) :: updF s (fun _ => f) fs := by simp [updF, hne]
      rw [e]
      simp [total] at ih ⊢; omega

theorem mem_upd {s : ByteArray} {f : AFile} {fs : List (ByteArray × AFile)} {p : ByteArray × AFile} (h : p ∈ updF s (fun _ => f) fs) : p = (s, f) ∨ p ∈ fs := by
  obtain ⟨q, hq, rfl⟩ := List.mem_map.1 h
  split
  · rename_i e; exact .inl (by rw [← e])
  · exact .inr hq

/-- The file's mark alone turns: the disk is as sound as it was. -/
theorem Ok.marked {D : DSt} (h : D.Ok) {s : ByteArray} {i : Nat} {f : AFile} (hi : D.files[i]? = some (s, f)) (v : Bool) : (D.setF s { f with done := v }).Ok := by
  obtain ⟨a1, a2, a3, a4, a5, a6, a7, a8, a9, a10, a11⟩ := h
  have hm : (s, f) ∈ D.files := List.mem_of_getElem? hi
  refine ⟨a1, a2, a3, a4, ?_, a6, a7, a8, fun p hp b hb => ?_, fun p hp b hb => ?_, ?_⟩
  · have := total_upd (f := { f with done := v }) a11 hi
    simp only [DSt.setF] at this ⊢
    rw [a5]
    have e : total (updF s (fun _ => { f with done := v }) D.files) = total D.files := by simpa using this
    rw [e]
  · rcases mem_upd hp with rfl | hp
    · exact a9 _ hm b hb
    · exact a9 p hp b hb
  · rcases mem_upd hp with rfl | hp
    · exact a10 _ hm b hb
    · exact a10 p hp b hb
  · rw [show (D.setF s { f with done := v }).files = updF s (fun _ => { f with done := v }) D.files from rfl, updF_names]; exact a11

set_option maxRecDepth 100000 in
set_option maxHeartbeats 1000000 in
theorem seal_do (d b i : Nat) (D : DSt) (R : DRep) (F : Nat → Prop) (s : ByteArray) (f : AFile) (r : Nat × Value) (w : World) (h : DiskAt w F d D R) (hi : D.files[i]? = some (s, f)) (hr : R.reps[i]? = some r)
    (cb : w.cell? ⟨b, 0, none⟩ = some (.pointer (some ⟨r.1, 0, none⟩))) :
    Calls Tryz.prog 238 #[.pointer (some ⟨b, 0, none⟩)] w fun e w' => e = .returned (.tuple #[]) ∧ DiskTo d F (D.setF s { f with done := true }) w w' := by
  have hfi := h.file i _ r hi hr
  have c0 := hfi.blk.at_ 0
  have f0 := hfi.blk.fr 0
  simp only [List.getElem?_toArray, List.getElem?_cons_zero] at c0
  have HI := Hid.intro_ hi
  have HR := Hid.intro_ hr
  clear hi hr
  go_enter Tryz.func238, Tryz.ntmps238
  go_wp2
  go_end0
  have k0 := (Keep.refl (fun b => b = r.1) w).setCell (p := ⟨r.1, 0, none⟩) (fun _ => rfl) (.int .i64 1)
  have hb := hfi.blk.set_ 0 (.int .i64 1)
  have hd := h.blk.far (p := ⟨r.1, 0, none⟩) (Ne.symm (Blk.ne_ hfi.blk h.blk (by decide))) (.int .i64 1)
  have eR : ({ R with reps := R.reps.set i (r.1, r.2) } : DRep) = R := by
    have : R.reps.set i (r.1, r.2) = R.reps := by
      apply List.ext_getElem?
      intro j
      by_cases q : i = j
      · subst q
        rw [List.getElem?_set_self (List.getElem?_eq_some_iff.1 HR.out).1, HR.out]
      · rw [List.getElem?_set_ne q]
    rw [this]
  have hDA : DiskAt (w.setCell ⟨r.1, 0, none⟩ (.int .i64 1)) F d (D.setF s { f with done := true }) { R with reps := R.reps.set i (r.1, r.2) } := by
    refine DiskAt.upd (D' := D.setF s { f with done := true }) (f' := { f with done := true }) (v' := r.2) h HI.out HR.out (k0.mono (fun b _ e => .inr (.inl e))) (fun _ h => h) (fun b hb => Nat.lt_of_lt_of_le (h.lt b hb) k0.size) (by rw [eR]; exact hd) ?_ (fun g hg => .inl hg) rfl rfl (Ok.marked h.ok HI.out true)
    obtain ⟨vs, g3, g4, g5⟩ := hfi.row
    refine ⟨hb, hfi.inF, vs, own_keep g3 k0 (fun g hg e => ?_), g4, fun j u bs hu hbs => (g5 j u bs hu hbs).keep k0 (fun b cs fr _ hc e => blk_ne hfi.blk hc (by decide) e)⟩
    obtain ⟨cur, hc⟩ := own_blk g3 hg
    exact Blk.ne_ hc hfi.blk (by decide) e
  exact ⟨rfl, F, _, hDA, k0.mono (fun b _ e => by rw [show b = r.1 from e]; exact hfi.inF), fun b hb => .inl hb⟩

theorem seal_enters (a : Nat) (w : World) : (callFunc 238 #[.pointer (some ⟨a, 0, none⟩)]).run Tryz.prog w = .ok (.enter 238 #[.pointer (some ⟨a, 0, none⟩)]) w := by
  kernel_rfl

theorem fpos_reps {w : World} {F : Nat → Prop} {d : Nat} {D : DSt} {R : DRep} {s : ByteArray} {i : Nat} {f : AFile} (h : DiskAt w F d D R) (hf : fpos s D.files = some (i, f)) : ∃ r, R.reps[i]? = some r ∧ D.files[i]? = some (s, f) := by
  obtain ⟨r, h1, h2, _⟩ := (pos_links s D.files R.reps h.len).2 i f hf
  exact ⟨r, h1, h2⟩

set_option maxRecDepth 100000 in
set_option maxHeartbeats 2000000 in
theorem seal_any (d : Nat) (D : DSt) (R : DRep) (F : Nat → Prop) (E : Nat → Addr) (s : ByteArray) (w : World) (h : DiskAt w F d D R) (he : Env w F E) :
    Calls Tryz.prog 193 #[.pointer (some ⟨d, 0, none⟩), .string s] w (DPost d F w (D.seal_ s).1 (D.seal_ s).2) := by
  unfold DSt.seal_
  cases hp : D.perr s with
  | some k =>
    have HP := Hid.intro_ hp
    have hk : k < 9 := by
      unfold DSt.perr DSt.ferr at hp
      split at hp
      · injection hp; omega
      · split at hp
        · injection hp; omega
        · split at hp
          · injection hp; omega
          · cases hp
    clear hp
    have ld := h.blk.lt
    go_enter Tryz.func193, Tryz.ntmps193
    go_wp2_with (first
      | (go_at_call 198; refine (powered_bad d D R F E s k _ h he HP.out).mono ?_; rintro e w1 ⟨rfl, hd1⟩)
      | (go_at_call 186; refine (told_about s E k _ hk (by exact (he.nil (hd1.keep.alloc _)).errs)).mono ?_; rintro e w2 ⟨rfl, hk2⟩))
    go_ret
    exact ⟨rfl, (DiskTo.of_keep h (Keep.refl _ _)).nil ((hd1.keep.alloc _).then_ hk2)⟩
  | none =>
    obtain ⟨ho, hn, i, f, hf⟩ := perr_on hp
    obtain ⟨r, hr, hi⟩ := fpos_reps h hf
    simp only [hf]
    have HO := Hid.intro_ ho
    have HN := Hid.intro_ hn
    have HF := Hid.intro_ hf
    have HR := Hid.intro_ hr
    have HI := Hid.intro_ hi
    have hfi := h.file i _ r hi hr
    have c0 := hfi.blk.at_ 0
    have lr := hfi.blk.lt
    have ld := h.blk.lt
    have hk0 := (Keep.refl Nil w).alloc (.cells #[.pointer (some ⟨r.1, 0, none⟩)] 158)
    have h0 := h.nil hk0
    have he0 := he.nil hk0
    clear hp ho hn hf hr hi
    cases hd : f.done
    · simp only [hd] at c0
      have HD := Hid.intro_ hd
      have hmf : ∀ (fn : Fn) (first cap : Array Value) (w : World), (Instr.makeFunc fn first cap).run Tryz.prog w = .ok (.func fn first cap) w := fun _ _ _ _ => rfl
      obtain ⟨Dn, hDn⟩ : ∃ x, x = D.outcome true (fun D => D.setF s { f with done := true }) (partOf fun D => D.setF s { f with done := true }) := ⟨_, rfl⟩
      rw [if_neg (by decide), ← hDn]
      have HDn := Hid.intro_ hDn
      have hkq := ((Keep.refl Nil (w.alloc (.cells #[.pointer (some ⟨r.1, 0, none⟩)] 158))).alloc (.cells #[.func (.func 238) #[] #[.pointer (some ⟨w.heap.size, 0, none⟩)]] 1))
      have b0 : (w.alloc (.cells #[.pointer (some ⟨r.1, 0, none⟩)] 158)).cell? ⟨w.heap.size, 0, none⟩ = some (.pointer (some ⟨r.1, 0, none⟩)) := (Blk.new_at w _ _ rfl).at_ 0
      have hact := act_whole d (w.heap.size + 1) D R F E true 238 #[.pointer (some ⟨w.heap.size, 0, none⟩)] (fun D => D.setF s { f with done := true }) _ (h0.nil hkq) (he0.nil hkq) (fun w => seal_enters _ w)
        ((Blk.new_at _ _ _ (by simp)).at_ 0) (fun e => by omega)
        (fun w1 h1 k1 => seal_do d _ i D.numbered R F s f r w1 h1 HI.out HR.out (cell_keep (cell_keep b0 hkq (fun h => h)) k1 (fun (e : w.heap.size = d) => by omega)))
      rw [← HDn.out] at hact
      clear hd hDn
      go_enter Tryz.func193, Tryz.ntmps193
      go_wp2_with (first
        | (go_at_call 198; refine (powered_ok d D R F s i f r _ h HO.out HN.out HF.out HR.out).mono ?_; rintro e w' ⟨rfl, rfl⟩)
        | (go_at_call 189; refine (whole_any _ _ ⟨_, _, rfl⟩).mono ?_; rintro e w1 ⟨rfl, rfl⟩)
        | (go_at_call 188; refine hact.mono ?_
           rintro e w1 ⟨v, rfl, hv, hD1⟩)
        | (go_at_call 186; refine (told_v E _ _ _ hv ?hE2).mono ?_
           case hE2 => exact hD1.env (he0.nil hkq)
           rintro e w2 ⟨rfl, hk2⟩))
      go_ret
      exact ⟨rfl, ((hD1.nil hk2).from_nil hkq).from_nil hk0⟩
    · simp only [hd] at c0
      rw [if_pos rfl]
      have v4 : w.cell? ⟨4, 0, none⟩ = some (.iface 421 (.pointer (some (E 4)))) := he.errs.var 4 (by decide)
      have l4 := cell_lt v4
      simp only at l4
      have p4 := Nat.lt_of_le_of_lt (Nat.zero_le _) l4
      go_enter Tryz.func193, Tryz.ntmps193
      go_wp2_with (first
        | (go_at_call 198; refine (powered_ok d D R F s i f r _ h HO.out HN.out HF.out HR.out).mono ?_; rintro e w' ⟨rfl, rfl⟩)
        | (go_at_call 186; refine (told_about s E 4 _ (by decide) he0.errs).mono ?_; rintro e w2 ⟨rfl, hk2⟩))
      go_ret
      exact ⟨rfl, (DiskTo.of_keep h (Keep.refl _ _)).nil (hk0.then_ hk2)⟩
end Go.Proofs.YtadipinnbehhhaaGreatDoor
namespace Go.Proofs.YtadipinnbehhhaaGreatDoor
open Go.RowKit

/-- What Length answers: the blocks, whether it is sealed, the number. -/
def DSt.length (D : DSt) (s : ByteArray) : Int × Bool × Int := match D.perr s with
  | some k => (0, false, errNo k)
  | none => match fpos s D.files with
    | none => (0, false, 0)
    | some (_, f) => (f.blocks.length, f.done, 0)

theorem perr_lt {D : DSt} {s : ByteArray} {k : Nat} (hp : D.perr s = some k) : k < 9 := by
  unfold DSt.perr DSt.ferr at hp
  split at hp
  · injection hp; omega
  · split at hp
    · injection hp; omega
    · split at hp
      · injection hp; omega
      · cases hp

theorem FileAt.len {w : World} {F : Nat → Prop} {r : Nat × Value} {f : AFile} (h : FileAt w F r f) : ∃ a c, r.2 = .slice a f.blocks.length c ∧ f.blocks.length ≤ c ∧ c ≤ maxLen := by
  obtain ⟨vs, ⟨h1, h2⟩, _⟩ := h.row
  rcases h2 with ⟨e, h0⟩ | ⟨g, cap, cur, e, _, _, hle, hcap, _⟩
  · rw [e, h0]; exact ⟨_, _, rfl, by simp, by decide⟩
  · exact ⟨_, _, e, hle, hcap⟩

set_option maxRecDepth 100000 in
set_option maxHeartbeats 1000000 in
theorem length_any (d : Nat) (D : DSt) (R : DRep) (F : Nat → Prop) (E : Nat → Addr) (s : ByteArray) (w : World) (h : DiskAt w F d D R) (he : Env w F E) :
    Calls Tryz.prog 182 #[.pointer (some ⟨d, 0, none⟩), .string s] w fun e w' =>
      e = .returned (.tuple #[.int .i64 (D.length s).1, .bool (D.length s).2.1, .int .i64 (D.length s).2.2]) ∧ Keep Nil w w' := by
  unfold DSt.length
  cases hp : D.perr s with
  | some k =>
    have HP := Hid.intro_ hp
    have hk := perr_lt hp
    clear hp
    go_enter Tryz.func182, Tryz.ntmps182
    go_wp2_with (first
      | (go_at_call 198; refine (powered_bad d D R F E s k _ h he HP.out).mono ?_; rintro e w1 ⟨rfl, hd1⟩)
      | (go_at_call 186; refine (told_about s E k _ hk (by exact (he.nil hd1.keep).errs)).mono ?_; rintro e w2 ⟨rfl, hk2⟩))
    go_ret3
    exact ⟨rfl, hd1.keep.then_ hk2⟩
  | none =>
    obtain ⟨ho, hn, i, f, hf⟩ := perr_on hp
    obtain ⟨r, hr, hi⟩ := fpos_reps h hf
    simp only [hf]
    have HO := Hid.intro_ ho
    have HN := Hid.intro_ hn
    have HF := Hid.intro_ hf
    have HR := Hid.intro_ hr
    have hfi := h.file i _ r hi hr
    obtain ⟨a, c, hv, hlc, hcm⟩ := hfi.len
    have c0 := hfi.blk.at_ 0
    have c1 := hfi.blk.at_ 1
    rw [hv] at c1
    simp only [List.getElem?_toArray, List.getElem?_cons_zero, List.getElem?_cons_succ] at c0 c1
    clear hp ho hn hf hr hi
    cases hd : f.done
    all_goals
      simp only [hd] at c0
      go_enter Tryz.func182, Tryz.ntmps182
      go_wp2_with (go_at_call 198; refine (powered_ok d D R F s i f r _ h HO.out HN.out HF.out HR.out).mono ?_; rintro e w' ⟨rfl, rfl⟩)
      go_region
      go_wp2
      go_ret3
      exact ⟨rfl, (Keep.refl Nil _).drew⟩

set_option maxHeartbeats 400000 in
theorem on_any (d : Nat) (D : DSt) (R : DRep) (F : Nat → Prop) (w : World) (h : DiskAt w F d D R) :
    Calls Tryz.prog 86 #[.pointer (some ⟨d, 0, none⟩)] w fun e w' => e = .returned (.bool D.on) ∧ w' = w := by
  have c0 : w.cell? ⟨d, 0, none⟩ = some (.bool D.on) := h.blk.at_ 0
  go_enter Tryz.func86, Tryz.ntmps86
  go_wp2
  go_ret
  exact ⟨rfl, rfl⟩
set_option maxHeartbeats 400000 in
theorem block_any (d : Nat) (D : DSt) (R : DRep) (F : Nat → Prop) (w : World) (h : DiskAt w F d D R) :
    Calls Tryz.prog 123 #[.pointer (some ⟨d, 0, none⟩)] w fun e w' => e = .returned (.int .i64 D.block) ∧ w' = w := by
  have c0 : w.cell? ⟨d, 1, none⟩ = some (.int .i64 D.block) := h.blk.at_ 1
  go_enter Tryz.func123, Tryz.ntmps123
  go_wp2
  go_ret
  exact ⟨rfl, rfl⟩
end Go.Proofs.YtadipinnbehhhaaGreatDoor
namespace Go.Proofs.YtadipinnbehhhaaGreatDoor
open Go.RowKit

theorem info_u8 : (Tryz.prog.info? 5).map (fun i => (i.zero, i.size, i.bytes)) = some (some (.int .u8 0), 1, 1) := by kernel_rfl
theorem info_bytes : (Tryz.prog.info? 161).map (fun i => (i.zero, i.size, i.bytes)) = some (some (.slice none 0 0), 1, 24) := by kernel_rfl

theorem Keep.of_grown {w w' : World} {row : Option Nat} (h : w.grownBy w' row) : Keep (fun b => row = some b) w w' :=
  ⟨h.os, h.tape, h.output, h.size, fun b hb hn => h.block b hb (fun e => hn e.symm)⟩
theorem Keep.of_grown_none {w w' : World} (h : w.grownBy w' none) : Keep Nil w w' := ⟨h.os, h.tape, h.output, h.size, fun b hb _ => h.block b hb (by simp)⟩
theorem Keep.setRow {w w' : World} {F : Nat → Prop} (h : Keep F w w') {g : Nat} (hg : g < w.heap.size → F g) (cs : Array Value) : Keep F w (w'.setRow g cs) :=
  ⟨h.os, h.tape, h.output, by have := h.size; simpa [World.setRow] using this, fun b hb hn => (setRow_other w' g b cs (fun e => hn (by subst e; exact hg hb))).trans (h.same b hb hn)⟩

/-- append onto a row of one's own, as one step of a region that draws. -/
theorem step_append_own {P : Program} {ops : Array Oper} {o : Oper} {a : Act} {w : World} {K : Act → World → Prop} {Q : Exit → Act → World → Prop} {Z : Prop}
    (hg : o.guard = none) (s x : Operand) (t : TypeId) (ho : o.op = Op.call { callee := Callee.builtin Builtin.append, args := #[s, x], argTypes := #[t, t] })
    (base : Nat) (e : TypeId) (i : TypeInfo) (z : Value) (size bytes : Nat) (ht : P.underlying t = some (.slice e)) (hi : P.info? e = some i) (hz : i.zero = some z)
    (hsize : i.size = size) (hby : i.bytes = bytes) (hzs : z.cells.size = size) (hsz : 0 < size)
    (v : Value) (n : Nat) (xs : List Value) (hs : a.eval s = v) (hown : w.ownsRow base e size v n xs)
    (ad : Addr) (m c : Nat) (news : List Value) (hx : a.eval x = .slice (some ad) m c) (hl : news.length = m * size) (hnews : ∀ j u, news[j]? = some u → w.cell? (ad.add j) = some u) (h1 : ∀ u ∈ news, u.oneCell' = true)
    (h63 : n + m ≤ maxLen) (hbytes : (n + m) * bytes ≤ 140737488355328) (hbase : base ≤ w.heap.size)
    (hK : ∀ av cv w', Hid (w'.ownsRow base e size (.slice av (n + m) cv) (n + m) (xs ++ news)) → Keep (fun b => v.ownBlock = some b) w w' → Hid ((Value.slice av (n + m) cv).ownBlock = v.ownBlock ∨ (Value.slice av (n + m) cv).ownBlock = some w.heap.size) → K (a.put o.dst (.slice av (n + m) cv)) w') :
    if Region.wanted o (yielded ops a.tmps) = true then Oper.wp P o a w K Q else Z := by
  have hw : Region.wanted o (yielded ops a.tmps) = true := by simp [Region.wanted, hg]
  rw [if_pos hw]
  obtain ⟨v', w', hr, h2, h3, h4, h5⟩ := run_append_own_at (P := P) w base t o.type e i z size bytes ht hi hz hsize hby hzs hsz v n xs hown ad m c news hl hnews h1 h63 hbytes hbase
  unfold Oper.wp execOp
  simp only [ho, resolve, invoke, builtin, Sem.run_bind, Sem.run_pure, Result.andThen_ok, List.map_toArray, List.map_cons, List.map_nil, hs, hx, hr]
  have hv : ∃ av cv, v' = .slice av (n + m) cv := by
    rcases h2.2 with ⟨rfl, e⟩ | ⟨g, cap, cur, rfl, _⟩
    · rw [e]; exact ⟨_, _, rfl⟩
    · exact ⟨_, _, rfl⟩
  obtain ⟨av, cv, rfl⟩ := hv
  exact hK av cv w' h2 (Keep.of_grown h3) h5

theorem one_new (w : World) (t : TypeId) (x : Value) : ∀ (j : Nat) (u : Value), [x][j]? = some u → (w.alloc (.cells #[x] t)).cell? (Addr.add ⟨w.heap.size, 0, none⟩ j) = some u := by
  intro j u hu
  have hj := (List.getElem?_eq_some_iff.1 hu).1
  simp at hj
  subst hj
  simp at hu
  subst hu
  exact (Blk.new w t #[x]).at_ 0

/-- A row of one's own reads as its cells. -/
theorem own_rd {w : World} {base : Nat} {e : TypeId} {size n : Nat} {xs : List Value} {a : Option Addr} {m c : Nat} (h : w.ownsRow base e size (.slice a m c) n xs) : Rd w a xs := by
  intro j u hu
  rcases h with ⟨hl, ⟨hv, h0⟩ | ⟨g, cap, cur, hv, _, hh, hle, hm, hs, ht⟩⟩
  · subst h0
    simp at hl
    subst hl
    simp at hu
  · injection hv with ha _ _
    refine ⟨⟨g, 0, none⟩, ha, ?_⟩
    rw [← ht] at hu
    have hj : j < n * size := by
      have := (List.getElem?_eq_some_iff.1 hu).1
      simp at this
      omega
    rw [List.getElem?_take_of_lt hj] at hu
    by_cases h0 : j = 0
    · subst h0
      simpa [World.cell?, hh, Addr.add] using hu
    · simpa [World.cell?, hh, Addr.add, h0] using hu
end Go.Proofs.YtadipinnbehhhaaGreatDoor
namespace Go.Proofs.YtadipinnbehhhaaGreatDoor
open Go.RowKit

/-- n bytes of v, the low one first, written from a place on. -/
def putL (bs : List Int) (off v : Nat) : Nat → List Int
  | 0 => bs
  | n + 1 => (putL bs off v n).set (off + n) ((v / 256 ^ n % 256 : Nat) : Int)

theorem putL_len (bs : List Int) (off v n : Nat) : (putL bs off v n).length = bs.length := by
  induction n with
  | zero => rfl
  | succ n ih => simp [putL, ih]

theorem by8_set (bs : List Int) (i : Nat) (x : Int) : (by8 bs).toArray.setIfInBounds i (.int .u8 x) = (by8 (bs.set i x)).toArray := by
  simp [by8, List.map_set]

theorem byte_eq (v k : Nat) : (v : Int) / 2 ^ (8 * k) % 256 = ((v / 256 ^ k % 256 : Nat) : Int) := by
  have e : (2 : Int) ^ (8 * k) = ((256 ^ k : Nat) : Int) := by
    rw [Int.pow_mul]
    simp
  rw [e]
  rfl

set_option maxRecDepth 100000 in
set_option maxHeartbeats 2000000 in
theorem put_any (g off len cap v n : Nat) (bs : List Int) (w : World) (hb : Blk w g 5 (by8 bs).toArray) (hn : n ≤ 8) (hl : n ≤ len) (ho : off + n ≤ bs.length) (hv : v < 18446744073709551616) :
    Calls Tryz.prog 271 #[.slice (some ⟨g, off, none⟩) len cap, .int .u64 v, .int .i64 n] w fun e w' => e = .returned (.tuple #[]) ∧ Blk w' g 5 (by8 (putL bs off v n)).toArray ∧ Keep (fun b => b = g) w w' := by
  have HV := Hid.intro_ hv
  clear hv
  go_enter Tryz.func271, Tryz.ntmps271
  go_wp2
  go_loopw [8] (fun i wr => ∃ k : Nat, k ≤ n ∧ i = .int .i64 k ∧ Blk wr g 5 (by8 (putL bs off v k)).toArray ∧ Keep (fun b => b = g) w wr) (fun i _ => n - (intOf i).toNat)
  case atStart => exact ⟨0, Nat.zero_le _, rfl, hb, Keep.refl _ _⟩
  case round =>
    obtain ⟨k, hk, rfl, hbk, hkk⟩ := hrel
    by_cases hlt : k < n
    · have hlen := putL_len bs off v k
      obtain ⟨x, hx⟩ : ∃ x, (by8 (putL bs off v k))[off + k]? = some x := ⟨_, List.getElem?_eq_getElem (by rw [by8_len, hlen]; omega)⟩
      have cx : wr.cell? ⟨g, off + k, none⟩ = some x := (hbk.at_ _).trans (by simpa using hx)
      have fx := hbk.fr (off + k)
      clear hx
      go_wp2
      go_roundw
      case rel => exact ⟨k + 1, by omega, by go_num, by rw [byte_eq]; have := hbk.set_ (off + k) (.int .u8 ((v / 256 ^ k % 256 : Nat) : Int)); rw [by8_set] at this; exact this, hkk.setCell (p := ⟨g, off + k, none⟩) (fun _ => rfl) _⟩
      case measure => simp [intOf]; omega
    · obtain rfl : k = n := by omega
      go_wp2
      go_end0
      exact ⟨rfl, hbk, hkk⟩
end Go.Proofs.YtadipinnbehhhaaGreatDoor
namespace Go.Proofs.YtadipinnbehhhaaGreatDoor
open Go.RowKit

/-- n bytes of v, the low one first. -/
def loB (v n : Nat) : List Int := (List.range n).map fun i => ((v / 256 ^ i % 256 : Nat) : Int)
theorem loB_len (v n : Nat) : (loB v n).length = n := by simp [loB]
theorem loB_succ (v n : Nat) : loB v (n + 1) = loB v n ++ [((v / 256 ^ n % 256 : Nat) : Int)] := by simp [loB, List.range_succ]
theorem by8_app (a b : List Int) : by8 (a ++ b) = by8 a ++ by8 b := by simp [by8]

set_option maxRecDepth 100000 in
set_option maxHeartbeats 4000000 in
theorem rnumber_any (base : Nat) (s0 : Value) (v n : Nat) (xs : List Int) (w : World) (ho : w.ownsRow base 5 1 s0 xs.length (by8 xs)) (hv : v < 18446744073709551616) (hn : n + xs.length ≤ 1099511627776) (hb : base ≤ w.heap.size) :
    Calls Tryz.prog 200 #[s0, .int .u64 v, .int .i64 n] w fun e w' => ∃ s, e = .returned s ∧ w'.ownsRow base 5 1 s (xs ++ loB v n).length (by8 (xs ++ loB v n)) ∧ Keep (fun b => s0.ownBlock = some b) w w' ∧ (s.ownBlock = s0.ownBlock ∨ ∃ g, s.ownBlock = some g ∧ w.heap.size ≤ g) := by
  have HO := Hid.intro_ ho
  clear ho
  obtain ⟨i0, hi0, hz0, hz1, hz2⟩ := info_parts info_u8
  go_enter Tryz.func200, Tryz.ntmps200
  go_wp2
  go_loopw [0, 1, 7] (fun s x i wr => ∃ (k : Nat) (r : Value), k ≤ n ∧ r = s ∧ i = .int .i64 k ∧ x = .int .u64 ((v / 256 ^ k : Nat) : Int) ∧ wr.ownsRow base 5 1 r (xs ++ loB v k).length (by8 (xs ++ loB v k)) ∧ Keep (fun b => s0.ownBlock = some b) w wr ∧ (r.ownBlock = s0.ownBlock ∨ ∃ g, r.ownBlock = some g ∧ w.heap.size ≤ g)) (fun _ _ i _ => n - (intOf i).toNat)
  case atStart => exact ⟨0, s0, Nat.zero_le _, rfl, rfl, by simp, by simpa [loB] using HO.out, Keep.refl _ _, .inl rfl⟩
  case round =>
    obtain ⟨k, r, hk, rfl, rfl, rfl, how, hkw, hbl⟩ := hrel
    have HW := Hid.intro_ how
    have HB := Hid.intro_ hbl
    clear how hbl
    by_cases hlt : k < n
    · have hlen : (xs ++ loB v k).length = xs.length + k := by rw [List.length_append, loB_len]
      have hy : v / 256 ^ k < 18446744073709551616 := Nat.lt_of_le_of_lt (Nat.div_le_self _ _) hv
      have hnx : v / 256 ^ (k + 1) = v / 256 ^ k / 256 := by rw [Nat.pow_succ, Nat.div_div_eq_div_mul]
      have HNX := Hid.intro_ hnx
      clear hnx
      obtain ⟨y, hyy⟩ : ∃ y, y = v / 256 ^ k := ⟨_, rfl⟩
      rw [← hyy] at hy HNX ⊢
      have HYY := Hid.intro_ hyy
      clear hyy
      go_wp2_with (at_builtin; refine wpList_append_own_at _ rfl (.tmp 13) (.tmp 17) 161 rfl base 5 i0 (.int .u8 0) 1 1 Tryz.underlying161 hi0 hz0 hz1 hz2 rfl (by decide) r (xs ++ loB v k).length (by8 (xs ++ loB v k)) (by simp [Act.eval]) (own_keep HW.out ((Keep.refl Nil _).alloc _) (fun g _ h => h)) ⟨wr.heap.size, 0, none⟩ 1 1 [.int .u8 ((y % 256 : Nat) : Int)] (by simp [Act.eval]) rfl (one_new _ _ _) (by simp [Value.oneCell']) (by unfold maxLen; omega) (by omega) (by have := hkw.size; simp; omega) ?_; intro s1 w1 ho1 hg1 _ hs1)
      have hnew : by8 (xs ++ loB v k) ++ [Value.int .u8 ((y % 256 : Nat) : Int)] = by8 (xs ++ loB v (k + 1)) := by
        rw [loB_succ, ← List.append_assoc, by8_app (xs ++ loB v k), HYY.out]; rfl
      have hlen2 : (xs ++ loB v k).length + 1 = (xs ++ loB v (k + 1)).length := by rw [List.length_append, List.length_append, loB_len, loB_len]; omega
      rw [hnew, hlen2] at ho1
      have k1 : Keep (fun b => r.ownBlock = some b) wr w1 := (((Keep.refl Nil wr).alloc _).mono (fun _ _ h => h.elim)).then_ (Keep.of_grown hg1)
      have k2 : Keep (fun b => s0.ownBlock = some b) w w1 := hkw.trans k1 (fun b hb e => by
        rcases HB.out with h | ⟨g, h, hg⟩
        · rw [← h]; exact e
        · rw [h] at e; injection e with e; omega)
      go_roundw
      case rel => exact ⟨k + 1, s1, by omega, rfl, by go_num, by rw [HNX.out]; rfl, ho1, k2, by
        rcases hs1 with h | h
        · rcases HB.out with h2 | ⟨g, h2, hg⟩
          · exact .inl (h.trans h2)
          · exact .inr ⟨g, h.trans h2, hg⟩
        · exact .inr ⟨_, h, by have := hkw.size; simp; omega⟩⟩
      case measure => simp [intOf]; omega
    · obtain rfl : k = n := by omega
      go_wp2
      go_ret
      exact ⟨r, rfl, HW.out, hkw, HB.out⟩
end Go.Proofs.YtadipinnbehhhaaGreatDoor
namespace Go.Proofs.YtadipinnbehhhaaGreatDoor

/-- One bit of the sum. -/
def bit1 (s : Nat) : Nat := (s >>> 1) ^^^ (if s.testBit 0 = true then 3988292384 else 0)
/-- A byte more. -/
def crcByte (s c : Nat) : Nat := bit1 (bit1 (bit1 (bit1 (bit1 (bit1 (bit1 (bit1 (s ^^^ c))))))))
def crcAll (s : Nat) (bs : List Nat) : Nat := bs.foldl crcByte s

theorem bit1_lt {s : Nat} (h : s < 4294967296) : bit1 s < 4294967296 := by
  unfold bit1
  have h1 : s >>> 1 < 2 ^ 32 := by rw [Nat.shiftRight_eq_div_pow]; omega
  have h2 : (if s.testBit 0 = true then 3988292384 else 0) < 2 ^ 32 := by split <;> decide
  exact Nat.xor_lt_two_pow h1 h2
theorem bit1_xor (a b : Nat) : bit1 (a ^^^ b) = bit1 a ^^^ bit1 b := by
  unfold bit1
  rw [Nat.shiftRight_xor_distrib, Nat.testBit_xor]
  have e : ∀ x y : Bool, (if (x ^^ y) = true then 3988292384 else 0) = (if x = true then 3988292384 else 0) ^^^ (if y = true then 3988292384 else 0) := by decide
  rw [e]
  generalize (if a.testBit 0 = true then 3988292384 else 0) = p
  generalize (if b.testBit 0 = true then 3988292384 else 0) = q
  rw [Nat.xor_assoc, Nat.xor_assoc]
  congr 1
  rw [← Nat.xor_assoc, ← Nat.xor_assoc, Nat.xor_comm (b >>> 1) p]
theorem bit1_even (a : Nat) : bit1 (2 * a) = a := by
  unfold bit1
  have h1 : (2 * a).testBit 0 = false := by simp
  rw [h1, if_neg (by decide), Nat.xor_zero, Nat.shiftRight_eq_div_pow]
  omega

/-- What the sum of a half byte comes to. -/
def half (i : Nat) : Nat := [0, 498536548, 997073096, 651767980, 1994146192, 1802195444, 1303535960, 1342533948, 3988292384, 4027552580, 3604390888, 3412177804, 2607071920, 2262029012, 2685067896, 3183342108].getD i 0
theorem half_eq : ∀ i, i < 16 → bit1 (bit1 (bit1 (bit1 i))) = half i := by decide
theorem half_lt : ∀ i, i < 16 → half i < 4294967296 := by decide

theorem split16 (s : Nat) : s = (16 * (s / 16)) ^^^ (s % 16) := by
  apply Nat.eq_of_testBit_eq
  intro i
  have e1 : 16 * (s / 16) = (s >>> 4) <<< 4 := by rw [Nat.shiftRight_eq_div_pow, Nat.shiftLeft_eq]; omega
  have e2 : s % 16 = s % 2 ^ 4 := rfl
  rw [Nat.testBit_xor, e1, e2, Nat.testBit_shiftLeft, Nat.testBit_shiftRight, Nat.testBit_mod_two_pow]
  by_cases h : 4 ≤ i
  · have : ¬ i < 4 := by omega
    simp [h, this]
  · have : i < 4 := by omega
    simp [h, this]
/-- Four bits at once, by the table. -/
theorem nibble (s : Nat) : bit1 (bit1 (bit1 (bit1 s))) = (s / 16) ^^^ half (s % 16) := by
  conv => lhs; rw [split16 s]
  rw [bit1_xor, bit1_xor, bit1_xor, bit1_xor, half_eq _ (Nat.mod_lt _ (by decide))]
  congr 1
  rw [show 16 * (s / 16) = 2 * (2 * (2 * (2 * (s / 16)))) from by omega, bit1_even, bit1_even, bit1_even, bit1_even]
theorem crcByte_nibbles (s c : Nat) : crcByte s c = ((((s ^^^ c) / 16) ^^^ half ((s ^^^ c) % 16)) / 16) ^^^ half ((((s ^^^ c) / 16) ^^^ half ((s ^^^ c) % 16)) % 16) := by
  unfold crcByte
  rw [nibble (s ^^^ c), nibble]
theorem crcByte_lt {s c : Nat} (hs : s < 4294967296) (hc : c < 256) : crcByte s c < 4294967296 := by
  unfold crcByte
  have : s ^^^ c < 4294967296 := Nat.xor_lt_two_pow (n := 32) hs (by omega)
  exact bit1_lt (bit1_lt (bit1_lt (bit1_lt (bit1_lt (bit1_lt (bit1_lt (bit1_lt this)))))))
theorem crcAll_lt : ∀ {bs : List Nat} {s : Nat}, s < 4294967296 → (∀ c ∈ bs, c < 256) → crcAll s bs < 4294967296
  | [], _, hs, _ => hs
  | c :: bs, s, hs, hb => by
    show crcAll (crcByte s c) bs < _
    exact crcAll_lt (crcByte_lt hs (hb c (List.mem_cons_self ..))) (fun x hx => hb x (List.mem_cons_of_mem _ hx))
/-- CRC-32. -/
def crc (bs : List Nat) : Nat := 4294967295 - crcAll 4294967295 bs
end Go.Proofs.YtadipinnbehhhaaGreatDoor
namespace Go.Proofs.YtadipinnbehhhaaGreatDoor
open Go.RowKit

/-- The table of half bytes lies as its initialiser laid it. -/
def HalvesAt (w : World) : Prop := ∀ i, i < 16 → w.cell? ⟨11, i, none⟩ = some (.int .u32 (half i))

theorem u32_xor_nat (a b : Nat) (ha : a < 4294967296) (hb : b < 4294967296) : bits .xor .u32 (a : Int) (b : Int) = ((a ^^^ b : Nat) : Int) := by
  have hx : a ^^^ b < 2 ^ 32 := Nat.xor_lt_two_pow (by omega) (by omega)
  show IntKind.u32.wrap ((BitVec.ofInt 32 (a : Int) ^^^ BitVec.ofInt 32 (b : Int)).toNat : Int) = _
  rw [BitVec.toNat_xor, ofInt_u32 a ha, ofInt_u32 b hb, IntKind.wrap_u32']
  omega
theorem u32_low4 (a : Nat) (ha : a < 4294967296) : bits .and .u32 (a : Int) 15 = ((a % 16 : Nat) : Int) := by
  have h := u32_and_nat a 15 ha (by decide)
  have e : a &&& 15 = a % 16 := Nat.and_two_pow_sub_one_eq_mod a 4
  rw [e] at h
  exact h

theorem not32 (x : Nat) (hx : x < 4294967296) : 4294967295 ^^^ x = 4294967295 - x := by
  have h : BitVec.allOnes 32 ^^^ BitVec.ofNat 32 x = ~~~ (BitVec.ofNat 32 x) := BitVec.allOnes_xor
  have h2 := congrArg BitVec.toNat h
  rw [BitVec.toNat_xor, BitVec.toNat_not, BitVec.toNat_allOnes, BitVec.toNat_ofNat, Nat.mod_eq_of_lt (show x < 2 ^ 32 by omega)] at h2
  exact h2

set_option maxRecDepth 100000 in
set_option maxHeartbeats 2000000 in
theorem sum_any (g off cap : Nat) (bs : List Nat) (w : World) (hc : ∀ (j : Nat) (c : Nat), bs[j]? = some c → w.cell? ⟨g, off + j, none⟩ = some (.int .u8 c)) (h8 : ∀ c ∈ bs, c < 256) (hl : bs.length ≤ 9223372036854775807) (hh : HalvesAt w) :
    Calls Tryz.prog 272 #[.slice (some ⟨g, off, none⟩) bs.length cap] w fun e w' => e = .returned (.int .u32 (crc bs)) ∧ w' = w := by
  have HC := Hid.intro_ hc
  have H8 := Hid.intro_ h8
  have HH := Hid.intro_ hh
  clear hc h8 hh
  go_enter Tryz.func272, Tryz.ntmps272
  go_wp2
  go_loop [3, 8] (fun s i => ∃ k x : Nat, k ≤ bs.length ∧ i = .int .i64 k ∧ s = .int .u32 x ∧ x < 4294967296 ∧ x = crcAll 4294967295 (bs.take k)) (fun _ i => bs.length - (intOf i).toNat)
  case atStart => exact ⟨0, 4294967295, Nat.zero_le _, rfl, rfl, by decide, rfl⟩
  case round =>
    obtain ⟨k, x, hk, rfl, rfl, hx, hs⟩ := hrel
    have HS := Hid.intro_ hs
    clear hs
    by_cases hlt : k < bs.length
    · obtain ⟨c, hcc⟩ : ∃ c, bs[k]? = some c := ⟨_, List.getElem?_eq_getElem hlt⟩
      have c0 := HC.out k c hcc
      have hc8 := H8.out c (List.mem_of_getElem? hcc)
      have HCC := Hid.intro_ hcc
      clear hcc
      have e1 := u32_xor_nat x c hx (by omega)
      obtain ⟨y, hy⟩ : ∃ y, y = x ^^^ c := ⟨_, rfl⟩
      have hy32 : y < 4294967296 := by rw [hy]; exact Nat.xor_lt_two_pow (n := 32) (by omega) (by omega)
      rw [← hy] at e1
      have HY := Hid.intro_ hy
      clear hy
      have e2 := u32_low4 y hy32
      have t1 := HH.out (y % 16) (Nat.mod_lt _ (by decide))
      have e3 : bits .xor .u32 ((y : Int) / 16) ((half (y % 16) : Nat) : Int) = (((y / 16) ^^^ half (y % 16) : Nat) : Int) := u32_xor_nat (y / 16) (half (y % 16)) (by omega) (half_lt _ (Nat.mod_lt _ (by decide)))
      obtain ⟨z, hz⟩ : ∃ z, z = (y / 16) ^^^ half (y % 16) := ⟨_, rfl⟩
      have hz32 : z < 4294967296 := by rw [hz]; exact Nat.xor_lt_two_pow (n := 32) (by omega) (by have := half_lt (y % 16) (Nat.mod_lt _ (by decide)); omega)
      rw [← hz] at e3
      have HZ := Hid.intro_ hz
      clear hz
      have e4 := u32_low4 z hz32
      have t2 := HH.out (z % 16) (Nat.mod_lt _ (by decide))
      have e5 : bits .xor .u32 ((z : Int) / 16) ((half (z % 16) : Nat) : Int) = (((z / 16) ^^^ half (z % 16) : Nat) : Int) := u32_xor_nat (z / 16) (half (z % 16)) (by omega) (half_lt _ (Nat.mod_lt _ (by decide)))
      obtain ⟨v, hv⟩ : ∃ v, v = (z / 16) ^^^ half (z % 16) := ⟨_, rfl⟩
      have hv32 : v < 4294967296 := by rw [hv]; exact Nat.xor_lt_two_pow (n := 32) (by omega) (by have := half_lt (z % 16) (Nat.mod_lt _ (by decide)); omega)
      rw [← hv] at e5
      have hstep : v = crcAll 4294967295 (bs.take (k + 1)) := by
        rw [hv, HZ.out, HY.out, ← crcByte_nibbles, HS.out]
        have htk : bs.take (k + 1) = bs.take k ++ [c] := by
          rw [List.take_add_one, HCC.out]; rfl
        rw [htk]
        simp [crcAll]
      have HST := Hid.intro_ hstep
      clear hv hstep
      go_wp2
      go_round
      case rel => exact ⟨k + 1, v, by omega, by go_num, rfl, hv32, HST.out⟩
      case measure => simp [intOf]; omega
    · have hx2 : x = crcAll 4294967295 bs := by rw [HS.out, List.take_of_length_le (by omega)]
      have HX := Hid.intro_ hx2
      clear hx2
      go_wp2
      go_ret
      refine ⟨?_, rfl⟩
      have hm : IntKind.u32.max = ((4294967295 : Nat) : Int) := rfl
      have hn := u32_xor_nat 4294967295 x (by decide) hx
      rw [not32 x hx] at hn
      have hcr : crc bs = 4294967295 - x := by rw [HX.out]; rfl
      exact congrArg (fun z => Ending.returned (.int .u32 z)) (by rw [hm, hcr]; exact hn)
end Go.Proofs.YtadipinnbehhhaaGreatDoor
namespace Go.Proofs.YtadipinnbehhhaaGreatDoor
open Go.RowKit

def bitsN : Nat → Nat → Nat
  | 0, s => s
  | n + 1, s => bit1 (bitsN n s)
theorem bitsN_lt {s : Nat} (h : s < 4294967296) : ∀ n, bitsN n s < 4294967296
  | 0 => h
  | n + 1 => bit1_lt (bitsN_lt h n)
theorem bit1_odd {y : Nat} (h : y % 2 = 1) : bit1 y = (y / 2) ^^^ 3988292384 := by
  unfold bit1
  have : y.testBit 0 = true := by rw [Nat.testBit_zero]; simpa using h
  rw [if_pos this, Nat.shiftRight_eq_div_pow]
theorem bit1_ev {y : Nat} (h : ¬ y % 2 = 1) : bit1 y = y / 2 := by
  unfold bit1
  have : y.testBit 0 = false := by rw [Nat.testBit_zero]; simpa using h
  rw [if_neg (by simp [this]), Nat.shiftRight_eq_div_pow, Nat.xor_zero]

set_option maxRecDepth 100000 in
set_option maxHeartbeats 4000000 in
theorem rsum_any (g off cap : Nat) (bs : List Nat) (w : World) (hc : ∀ (j : Nat) (c : Nat), bs[j]? = some c → w.cell? ⟨g, off + j, none⟩ = some (.int .u8 c)) (h8 : ∀ c ∈ bs, c < 256) (hl : bs.length ≤ 9223372036854775807) :
    Calls Tryz.prog 146 #[.slice (some ⟨g, off, none⟩) bs.length cap] w fun e w' => e = .returned (.int .u32 (crc bs)) ∧ w' = w := by
  have HC := Hid.intro_ hc
  have H8 := Hid.intro_ h8
  clear hc h8
  go_enter Tryz.func146, Tryz.ntmps146
  go_wp2
  go_loop [3, 4] (fun s i => ∃ k x : Nat, k ≤ bs.length ∧ i = .int .i64 k ∧ s = .int .u32 x ∧ x < 4294967296 ∧ x = crcAll 4294967295 (bs.take k)) (fun _ i => bs.length - (intOf i).toNat)
  case atStart => exact ⟨0, 4294967295, Nat.zero_le _, rfl, rfl, by decide, rfl⟩
  case round =>
    obtain ⟨k, x, hk, rfl, rfl, hx, hs⟩ := hrel
    have HS := Hid.intro_ hs
    clear hs
    by_cases hlt : k < bs.length
    · obtain ⟨c, hcc⟩ : ∃ c, bs[k]? = some c := ⟨_, List.getElem?_eq_getElem hlt⟩
      have c0 := HC.out k c hcc
      have hc8 := H8.out c (List.mem_of_getElem? hcc)
      have hnext : crcAll 4294967295 (bs.take (k + 1)) = bitsN 8 (x ^^^ c) := by
        have htk : bs.take (k + 1) = bs.take k ++ [c] := by rw [List.take_add_one, hcc]; rfl
        rw [htk, HS.out]
        simp [crcAll, crcByte, bitsN]
      have HN := Hid.intro_ hnext
      clear hcc hnext
      have e1 := u32_xor_nat x c hx (by omega)
      have hy0 : x ^^^ c < 4294967296 := Nat.xor_lt_two_pow (n := 32) (by omega) (by omega)
      generalize x ^^^ c = y0 at *
      go_wp2
      go_loop [3, 5] (fun s j => ∃ n y : Nat, n ≤ 8 ∧ j = .int .i64 n ∧ s = .int .u32 y ∧ y < 4294967296 ∧ y = bitsN n y0) (fun _ j => 8 - (intOf j).toNat)
      case atStart => exact ⟨0, y0, by omega, rfl, rfl, hy0, rfl⟩
      case round =>
        obtain ⟨n, y, hn, rfl, rfl, hy, hb⟩ := hrel
        have HB := Hid.intro_ hb
        clear hb
        by_cases h8 : n < 8
        · by_cases ho : y % 2 = 1
          · have q : (((y : Int) % 2) == 1) = true := by simp; omega
            have e2 : bits .xor .u32 ((y : Int) / 2) 3988292384 = (((y / 2) ^^^ 3988292384 : Nat) : Int) := u32_xor_nat (y / 2) 3988292384 (by omega) (by decide)
            have hst : bitsN (n + 1) y0 = (y / 2) ^^^ 3988292384 := by show bit1 (bitsN n y0) = _; rw [← HB.out, bit1_odd ho]
            have HST := Hid.intro_ hst
            have hz : (y / 2) ^^^ 3988292384 < 4294967296 := Nat.xor_lt_two_pow (n := 32) (by omega) (by decide)
            generalize (y / 2) ^^^ 3988292384 = z at *
            clear ho hst
            go_wp2
            go_round
            case rel => exact ⟨n + 1, z, by omega, by go_num, rfl, hz, HST.out.symm⟩
            case measure => simp [intOf]; omega
          · have q : (((y : Int) % 2) == 1) = false := by simp; omega
            have hst : bitsN (n + 1) y0 = y / 2 := by show bit1 (bitsN n y0) = _; rw [← HB.out, bit1_ev ho]
            have HST := Hid.intro_ hst
            clear ho hst
            go_wp2
            go_round
            case rel => exact ⟨n + 1, y / 2, by omega, by go_num, rfl, by omega, HST.out.symm⟩
            case measure => simp [intOf]; omega
        · obtain rfl : n = 8 := by omega
          go_wp2
          go_round
          case rel => exact ⟨k + 1, y, by omega, by go_num, rfl, hy, by rw [HN.out]; exact HB.out⟩
          case measure => simp [intOf]; omega
    · have hx2 : x = crcAll 4294967295 bs := by rw [HS.out, List.take_of_length_le (by omega)]
      have HX := Hid.intro_ hx2
      clear hx2
      go_wp2
      go_ret
      refine ⟨?_, rfl⟩
      have hcr : crc bs = 4294967295 - x := by rw [HX.out]; rfl
      exact congrArg (fun z => Ending.returned (.int .u32 z)) (by rw [hcr]; omega)
end Go.Proofs.YtadipinnbehhhaaGreatDoor
namespace Go.Proofs.YtadipinnbehhhaaGreatDoor
open Go.RowKit

/-- How many records a block holds. -/
def fit (b : Int) : Int := if b < 64 ∨ 65536 < b ∨ ¬ b % 32 = 0 then 0 else b / 32 - 1

set_option maxHeartbeats 1000000 in
theorem fit_any (b : Int) (w : World) : Calls Tryz.prog 122 #[.int .i64 b] w fun e w' => e = .returned (.int .i64 (fit b)) ∧ w' = w := by
  unfold fit
  by_cases h1 : b < 64
  · rw [if_pos (.inl h1)]
    go_enter Tryz.func122, Tryz.ntmps122
    go_wp2
    go_ret
    exact ⟨rfl, rfl⟩
  by_cases h2 : 65536 < b
  · rw [if_pos (.inr (.inl h2))]
    go_enter Tryz.func122, Tryz.ntmps122
    go_wp2
    go_ret
    exact ⟨rfl, rfl⟩
  by_cases h3 : b % 32 = 0
  · rw [if_neg (by omega)]
    obtain ⟨n, rfl⟩ : ∃ n : Nat, b = n := ⟨b.toNat, by omega⟩
    have q : (((n : Int) % 32) == 0) = true := by simp; omega
    go_enter Tryz.func122, Tryz.ntmps122
    go_wp2
    go_ret
    exact ⟨rfl, rfl⟩
  · rw [if_pos (.inr (.inr h3))]
    obtain ⟨n, rfl⟩ : ∃ n : Nat, b = n := ⟨b.toNat, by omega⟩
    have q : (((n : Int) % 32) == 0) = false := by simp; omega
    go_enter Tryz.func122, Tryz.ntmps122
    go_wp2
    go_ret
    exact ⟨rfl, rfl⟩

set_option maxHeartbeats 1000000 in
theorem rfit_any (b : Int) (w : World) : Calls Tryz.prog 10 #[.int .i64 b] w fun e w' => e = .returned (.int .i64 (fit b)) ∧ w' = w := by
  unfold fit
  by_cases h1 : b < 64
  · rw [if_pos (.inl h1)]
    go_enter Tryz.func10, Tryz.ntmps10
    go_wp2
    go_ret
    exact ⟨rfl, rfl⟩
  by_cases h2 : 65536 < b
  · rw [if_pos (.inr (.inl h2))]
    go_enter Tryz.func10, Tryz.ntmps10
    go_wp2
    go_ret
    exact ⟨rfl, rfl⟩
  by_cases h3 : b % 32 = 0
  · rw [if_neg (by omega)]
    obtain ⟨n, rfl⟩ : ∃ n : Nat, b = n := ⟨b.toNat, by omega⟩
    have q : (((n : Int) % 32) == 0) = true := by simp; omega
    go_enter Tryz.func10, Tryz.ntmps10
    go_wp2
    go_ret
    exact ⟨rfl, rfl⟩
  · rw [if_pos (.inr (.inr h3))]
    obtain ⟨n, rfl⟩ : ∃ n : Nat, b = n := ⟨b.toNat, by omega⟩
    have q : (((n : Int) % 32) == 0) = false := by simp; omega
    go_enter Tryz.func10, Tryz.ntmps10
    go_wp2
    go_ret
    exact ⟨rfl, rfl⟩

set_option maxHeartbeats 1000000 in
theorem known_any (k : Int) (w : World) : Calls Tryz.prog 124 #[.int .i64 k] w fun e w' => e = .returned (.bool (decide (1 ≤ k) && decide (k ≤ 5))) ∧ w' = w := by
  by_cases h1 : 1 ≤ k
  · rw [decide_eq_true h1, Bool.true_and]
    go_enter Tryz.func124, Tryz.ntmps124
    go_wp2
    go_ret
    exact ⟨rfl, rfl⟩
  · rw [decide_eq_false h1, Bool.false_and]
    have q : decide (1 ≤ k) = false := decide_eq_false h1
    clear h1
    go_enter Tryz.func124, Tryz.ntmps124
    go_wp2
    go_ret
    exact ⟨rfl, rfl⟩

def within (v n : Int) : Int := if v < 0 then (-(v + 1)) % n else v % n
set_option maxHeartbeats 1000000 in
theorem within_any (v n : Int) (hv : -9223372036854775808 ≤ v ∧ v ≤ 9223372036854775807) (hn : 0 < n ∧ n ≤ 9223372036854775807) (w : World) :
    Calls Tryz.prog 47 #[.int .i64 v, .int .i64 n] w fun e w' => e = .returned (.int .i64 (within v n)) ∧ w' = w := by
  unfold within
  obtain ⟨m, rfl⟩ : ∃ m : Nat, n = m := ⟨n.toNat, by omega⟩
  have q0 : ¬ (m : Int) = 0 := by omega
  by_cases h1 : v < 0
  · rw [if_pos h1]
    obtain ⟨x, hx⟩ : ∃ x : Nat, -(v + 1) = x := ⟨(-(v + 1)).toNat, by omega⟩
    have e1 : -((v + 1).tmod (m : Int)) = (x : Int) % (m : Int) := by
      rw [← Int.neg_tmod, hx]; exact Int.tmod_eq_emod_of_nonneg (by omega)
    rw [hx, ← e1]
    clear e1 hx
    go_enter Tryz.func47, Tryz.ntmps47
    go_wp2
    go_ret
    exact ⟨rfl, rfl⟩
  · rw [if_neg h1]
    obtain ⟨x, rfl⟩ : ∃ x : Nat, v = x := ⟨v.toNat, by omega⟩
    go_enter Tryz.func47, Tryz.ntmps47
    go_wp2
    go_ret
    exact ⟨rfl, rfl⟩

set_option maxHeartbeats 1000000 in
theorem lblock_any (v : Int) (hv : -9223372036854775808 ≤ v ∧ v ≤ 9223372036854775807) (w : World) :
    Calls Tryz.prog 9 #[.int .i64 v] w fun e w' => e = .returned (.int .i64 (64 + 32 * within v 9)) ∧ w' = w := by
  have hw := within_any v 9 hv (by omega)
  have hb : 0 ≤ within v 9 ∧ within v 9 < 9 := by unfold within; split <;> omega
  generalize within v 9 = x at *
  go_enter Tryz.func9, Tryz.ntmps9
  go_wp2_with (go_at_call 47; refine (hw _).mono ?_; rintro e w' ⟨rfl, rfl⟩)
  go_ret
  exact ⟨rfl, rfl⟩

set_option maxHeartbeats 1000000 in
theorem huge_any (n : Int) (w : World) : Calls Tryz.prog 8 #[.int .i64 n] w fun e w' => e = .returned (.bool (decide (268435456 < n))) ∧ w' = w := by
  go_enter Tryz.func8, Tryz.ntmps8
  go_wp2
  go_ret
  exact ⟨rfl, rfl⟩
end Go.Proofs.YtadipinnbehhhaaGreatDoor
namespace Go.Proofs.YtadipinnbehhhaaGreatDoor
open Go.RowKit

/-- A record: its four words. -/
structure R4 where
  a : Nat
  b : Nat
  c : Nat
  d : Nat
def R4.ws (r : R4) : List Nat := [r.a, r.b, r.c, r.d]
structure R4.Ok (r : R4) : Prop where
  a : r.a < 18446744073709551616
  b : r.b < 18446744073709551616
  c : r.c < 18446744073709551616
  d : r.d < 18446744073709551616
/-- Records as cells. -/
def rcCells (l : List R4) : List Value := l.flatMap fun r => r.ws.map fun (x : Nat) => Value.int .u64 x
def R4.bytes (r : R4) : List Int := loB r.a 8 ++ loB r.b 8 ++ loB r.c 8 ++ loB r.d 8
def rcBytes (l : List R4) : List Int := l.flatMap R4.bytes

/-- What stands ahead of a block's sum. -/
def encBody (kind : Int) (place : Nat) (l : List R4) (block : Nat) : List Int :=
  [83, 84, 82, 65, 1, kind] ++ loB l.length 2 ++ loB place 8 ++ loB 0 12 ++ rcBytes l ++ loB 0 (block - 32 - 32 * l.length)
def natB (bs : List Int) : List Nat := bs.map Int.toNat
/-- A block of records, as bytes. -/
def encB (kind : Int) (place : Nat) (l : List R4) (block : Nat) : List Int := encBody kind place l block ++ loB (crc (natB (encBody kind place l block))) 4

theorem rcBytes_len (l : List R4) : (rcBytes l).length = 32 * l.length := by
  induction l with
  | nil => rfl
  | cons r l ih =>
    have : rcBytes (r :: l) = r.bytes ++ rcBytes l := rfl
    rw [this, List.length_append, ih]
    simp [R4.bytes, loB_len]; omega
theorem encBody_len {kind : Int} {place block : Nat} {l : List R4} (h : 32 * l.length + 32 ≤ block) : (encBody kind place l block).length = block - 4 := by
  unfold encBody
  simp only [List.length_append, loB_len, rcBytes_len, List.length_cons, List.length_nil]
  omega
theorem loB_range (v n : Nat) : ∀ x ∈ loB v n, 0 ≤ x ∧ x ≤ 255 := by
  intro x hx
  obtain ⟨i, _, rfl⟩ := List.mem_map.1 hx
  have := Nat.mod_lt (v / 256 ^ i) (show 0 < 256 by decide)
  omega
theorem rcBytes_range (l : List R4) : ∀ x ∈ rcBytes l, 0 ≤ x ∧ x ≤ 255 := by
  intro x hx
  obtain ⟨r, _, hr⟩ := List.mem_flatMap.1 hx
  simp only [R4.bytes, List.mem_append] at hr
  rcases hr with ((hr | hr) | hr) | hr <;> exact loB_range _ _ x hr
theorem encBody_range {kind : Int} {place block : Nat} {l : List R4} (hk : 1 ≤ kind ∧ kind ≤ 255) : ∀ x ∈ encBody kind place l block, 0 ≤ x ∧ x ≤ 255 := by
  intro x hx
  simp only [encBody, List.mem_append, List.mem_cons, List.not_mem_nil, or_false] at hx
  rcases hx with ((((hx | hx) | hx) | hx) | hx) | hx
  · rcases hx with rfl | rfl | rfl | rfl | rfl | rfl <;> omega
  · exact loB_range _ _ x hx
  · exact loB_range _ _ x hx
  · exact loB_range _ _ x hx
  · exact rcBytes_range l x hx
  · exact loB_range _ _ x hx
end Go.Proofs.YtadipinnbehhhaaGreatDoor
