/- Disk: Delete. The numbers of the mutex's functions and types in this seat's program, and that the program holds them. The purse: what its methods do. The purse's calls that lock: Take, Give, Used, Free, Peak, New. The desk: a disk and a purse together; what a stream is. -/
import Derived.Test.YtadipinnbehhhaaGreatDoorProg
import Derived.Conc.MuLone
import Derived.KernelRfl
import Derived.Deep.RegionHeld3
import Derived.StillTailTactics
import Derived.Deep.RegionWith
import Derived.Test.YtadipinnbehhhaaGreatDoorBuildsRowAD
import Derived.Test.YtadipinnbehhhaaGreatDoorBuildsRowAA
import Derived.Test.YtadipinnbehhhaaGreatDoorBuildsRowAC
namespace Go.Proofs.YtadipinnbehhhaaGreatDoor
open Go.RowKit

theorem zip_erase {α β γ : Type} (g : α → β → γ) : ∀ (l : List α) (r : List β) (i : Nat), List.zipWith g (l.eraseIdx i) (r.eraseIdx i) = (List.zipWith g l r).eraseIdx i
  | [], [], _ => rfl
  | [], _ :: _, 0 => rfl
  | [], _ :: _, _ + 1 => rfl
  | _ :: l, [], 0 => by simp
  | _ :: l, [], _ + 1 => by simp
  | _ :: _, _ :: _, 0 => rfl
  | a :: l, b :: r, i + 1 => by simp [zip_erase g l r i]

theorem total_erase : ∀ {fs : List (ByteArray × AFile)} {i : Nat} {s : ByteArray} {f : AFile}, fs[i]? = some (s, f) → total (fs.eraseIdx i) + f.blocks.length = total fs
  | [], _, _, _, h => by simp at h
  | (k, x) :: fs, 0, s, f, h => by
    simp only [List.getElem?_cons_zero, Option.some.injEq, Prod.mk.injEq] at h
    obtain ⟨_, rfl⟩ := h
    simp [total]; omega
  | (k, x) :: fs, i + 1, s, f, h => by
    have ih := total_erase (fs := fs) (i := i) (by simpa using h)
    simp [total] at ih ⊢; omega

/-- The file at a place goes. -/
def DSt.drop (D : DSt) (i : Nat) (f : AFile) : DSt := { D with files := D.files.eraseIdx i, used := D.used - f.blocks.length }

theorem Ok.drop {D : DSt} (h : D.Ok) {s : ByteArray} {i : Nat} {f : AFile} (hi : D.files[i]? = some (s, f)) : (D.drop i f).Ok := by
  obtain ⟨a1, a2, a3, a4, a5, a6, a7, a8, a9, a10, a11⟩ := h
  have ht := total_erase hi
  refine ⟨a1, a2, a3, a4, ?_, ?_, a7, a8, fun p hp => a9 p (List.mem_of_mem_eraseIdx hp), fun p hp => a10 p (List.mem_of_mem_eraseIdx hp), ?_⟩
  · show D.used - f.blocks.length = (total (D.files.eraseIdx i) : Int)
    rw [a5]; omega
  · show D.used - f.blocks.length ≤ D.room
    omega
  · show ((D.files.eraseIdx i).map (·.1)).Nodup
    exact ((List.eraseIdx_sublist _ _).map _).nodup a11

theorem erase_at {α : Type} {l : List α} {i j : Nat} {a : α} (h : (l.eraseIdx i)[j]? = some a) : l[if j < i then j else j + 1]? = some a := by
  rw [List.getElem?_eraseIdx] at h
  split at h
  · rename_i hlt; rw [if_pos hlt]; exact h
  · rename_i hlt; rw [if_neg hlt]; exact h

theorem DiskAt.dropped {w w' : World} {F : Nat → Prop} {d i : Nat} {D D' : DSt} {R : DRep} (h : DiskAt w F d D R) (k : Keep (fun b => b = d ∨ b = R.mb) w w')
    (hm : MapAt w' R.mb ((links D.files R.reps).eraseIdx i)) (hb : Blk w' d 153 (D'.cells { R with reps := R.reps.eraseIdx i })) (hf : D'.files = D.files.eraseIdx i) (ht : D'.trs = D.trs) (ho : D'.Ok) :
    DiskAt w' F d D' { R with reps := R.reps.eraseIdx i } := {
  blk := hb
  fd := h.fd
  fm := h.fm
  map := by rw [hf]; unfold links at hm ⊢; rw [zip_erase]; exact hm
  len := by rw [hf, List.length_eraseIdx, List.length_eraseIdx, h.len]
  fbs := ((List.eraseIdx_sublist _ _).map _).nodup h.fbs
  file := fun j p r hp hr => by
    rw [hf] at hp
    have g := h.file _ p r (erase_at hp) (erase_at hr)
    refine g.keep k ?_ (fun x hx => ?_) (fun b cs fr _ hc => ?_)
    · rintro (e | e)
      · exact Blk.ne_ g.blk h.blk (by decide) e
      · exact h.map.ne g.blk e.symm
    · obtain ⟨cur, hc⟩ := h.rowblk (erase_at hp) (erase_at hr) hx
      rintro (e | e)
      · exact Blk.ne_ hc h.blk (by decide) e
      · exact h.map.ne hc e.symm
    · rintro (e | e)
      · exact blk_ne h.blk hc (by decide) e
      · exact map_ne h.map hc e
  row := fun a b p q g hp hq hg hg' => by
    have := h.row _ _ p q g (erase_at hp) (erase_at hq) hg hg'
    split at this <;> split at this <;> omega
  trs := fun j u hu => by
    rw [ht] at hu
    obtain ⟨b, e, hc⟩ := h.trs j u hu
    refine ⟨b, e, cell_keep hc k ?_⟩
    obtain ⟨_, cs, fr, hbb⟩ := h.ftr b e
    rintro (e2 | e2)
    · exact h.tbne e h.blk (by decide) e2
    · exact map_ne h.map hbb e2
  ftr := fun b e => by
    obtain ⟨h0, cs, fr, hbb⟩ := h.ftr b e
    refine ⟨h0, cs, fr, (k.same _ (lt_of_heap hbb) ?_).trans hbb⟩
    rintro (e2 | e2)
    · exact h.tbne e h.blk (by decide) e2
    · exact map_ne h.map hbb e2
  tcl := by rw [ht]; exact h.tcl
  tcm := h.tcm
  lt := fun b hb => Nat.lt_of_lt_of_le (h.lt b hb) k.size
  ok := ho }

/-- delete, as one step of a region that draws. -/
theorem step_delete {P : Program} {ops : Array Oper} {o : Oper} {a : Act} {w w' : World} {K : Act → World → Prop} {Q : Exit → Act → World → Prop} {Z : Prop}
    (hg : o.guard = none) (m x : Operand) (T U : TypeId) (ho : o.op = Op.call { callee := Callee.builtin Builtin.delete, args := #[m, x], argTypes := #[T, U] })
    (vm vx : Value) (hm : a.eval m = vm) (hx : a.eval x = vx) (hrun : (Builtin.delete_ #[T, U] o.type #[vm, vx]).run P w = .ok (.tuple #[]) w') (hK : K (a.put o.dst (.tuple #[])) w') :
    if Region.wanted o (yielded ops a.tmps) = true then Oper.wp P o a w K Q else Z := by
  have hw : Region.wanted o (yielded ops a.tmps) = true := by simp [Region.wanted, hg]
  rw [if_pos hw]
  unfold Oper.wp execOp
  simp only [ho, resolve, invoke, builtin, Sem.run_bind, Sem.run_pure, Result.andThen_ok, List.map_toArray, List.map_cons, List.map_nil, hm, hx, hrun]
  exact hK

set_option maxRecDepth 100000 in
set_option maxHeartbeats 1000000 in
theorem delete_do (d bd bn bf i : Nat) (D : DSt) (R : DRep) (F : Nat → Prop) (s : ByteArray) (f : AFile) (r : Nat × Value) (w : World) (h : DiskAt w F d D R) (hf : fpos s D.files = some (i, f)) (hr : R.reps[i]? = some r)
    (cd : w.cell? ⟨bd, 0, none⟩ = some (.pointer (some ⟨d, 0, none⟩))) (cn : w.cell? ⟨bn, 0, none⟩ = some (.string s)) (cf : w.cell? ⟨bf, 0, none⟩ = some (.pointer (some ⟨r.1, 0, none⟩))) (nd : ¬ F bd) (nf : ¬ F bf) :
    Calls Tryz.prog 199 #[.pointer (some ⟨bd, 0, none⟩), .pointer (some ⟨bn, 0, none⟩), .pointer (some ⟨bf, 0, none⟩)] w fun e w' => e = .returned (.tuple #[]) ∧ DiskTo d F (D.drop i f) w w' := by
  obtain ⟨r', hr', hi, hp⟩ := (pos_links s D.files R.reps h.len).2 i f hf
  rw [hr] at hr'
  injection hr' with hr'
  subst hr'
  have hfi := h.file i _ r hi hr
  have hm : MapAt w.drew R.mb (links D.files R.reps) := h.map
  obtain ⟨w2, hrun, hm2, hsz, ho, ht, hout, hsame⟩ := hm.del Tryz.underlying151 Tryz.underlying9 s i _ hp 0
  have k2 : Keep (fun b => b = R.mb) w w2 := ⟨ho, ht, hout, by rw [hsz]; exact Nat.le_refl _, fun b hb hn => hsame b hn⟩
  have c3 : w.cell? ⟨d, 3, none⟩ = some (.map (some R.mb)) := h.blk.at_ 3
  have cd2 := cell_keep cd k2 (fun e => nd (by rw [show bd = R.mb from e]; exact h.fm))
  have cf2 := cell_keep cf k2 (fun e => nf (by rw [show bf = R.mb from e]; exact h.fm))
  have d2 := h.blk.keep k2 (Ne.symm (h.map.ne h.blk))
  have r2 := hfi.blk.keep k2 (Ne.symm (h.map.ne hfi.blk))
  obtain ⟨a, c, hv, _, _⟩ := hfi.len
  have x1 : w2.cell? ⟨r.1, 1, none⟩ = some (.slice a f.blocks.length c) := by rw [← hv]; exact r2.at_ 1
  have x10 : w2.cell? ⟨d, 10, none⟩ = some (.int .i64 D.used) := d2.at_ 10
  have y10 := d2.fr 10
  have HI := Hid.intro_ hi
  have HR := Hid.intro_ hr
  have HM := Hid.intro_ hm2
  have HU := Hid.intro_ hrun
  have hbl := blocks_le h.ok hi
  have hle := h.ok.le
  have hr1 := h.ok.r1
  have hDk := h
  clear hf hp hi hr hm2 hsame hsz ho ht hout hv hrun
  go_enter Tryz.func199, Tryz.ntmps199
  go_wp2
  go_region_law (refine step_delete rfl (.tmp 6) (.tmp 7) 151 9 rfl _ _ (by simp [Act.eval]) (by simp [Act.eval]) HU.out ?_)
  all_goals
    go_wp2
    go_region
    go_end0
    have kd := (Keep.refl (fun b => b = d) w2).setCell (p := ⟨d, 10, none⟩) (fun _ => rfl) (.int .i64 (D.used - f.blocks.length))
    have kk : Keep (fun b => b = d ∨ b = R.mb) w (w2.setCell ⟨d, 10, none⟩ (.int .i64 (D.used - f.blocks.length))) := (k2.mono (fun _ _ e => .inr e)).setCell (p := ⟨d, 10, none⟩) (fun _ => .inl rfl) _
    refine ⟨rfl, DiskTo.nil (w' := w2.setCell ⟨d, 10, none⟩ (.int .i64 (D.used - f.blocks.length))) ⟨F, _, DiskAt.dropped (D' := D.drop i f) hDk kk (HM.out.of_heap (kd.same _ HM.out.lt (HM.out.ne d2))) (Blk.set_ d2 10 _) rfl rfl (Ok.drop hDk.ok HI.out), kk.mono ?_, fun b hb => .inl hb⟩ ((Keep.refl Nil _).drew)⟩
    rintro b _ (e | e)
    · rw [e]; exact hDk.fd
    · rw [e]; exact hDk.fm

theorem delete_enters (a b c : Nat) (w : World) : (callFunc 199 #[.pointer (some ⟨a, 0, none⟩), .pointer (some ⟨b, 0, none⟩), .pointer (some ⟨c, 0, none⟩)]).run Tryz.prog w = .ok (.enter 199 #[.pointer (some ⟨a, 0, none⟩), .pointer (some ⟨b, 0, none⟩), .pointer (some ⟨c, 0, none⟩)]) w := by
  kernel_rfl

def DSt.delete (D : DSt) (s : ByteArray) : DSt × Int := match D.perr s with
  | some k => (D, errNo k)
  | none => match fpos s D.files with
    | none => (D, 0)
    | some (i, f) => D.outcome false (fun D => D.drop i f) (partOf fun D => D.drop i f)

set_option maxRecDepth 100000 in
set_option maxHeartbeats 2000000 in
theorem delete_any (d : Nat) (D : DSt) (R : DRep) (F : Nat → Prop) (E : Nat → Addr) (s : ByteArray) (w : World) (h : DiskAt w F d D R) (he : Env w F E) :
    Calls Tryz.prog 151 #[.pointer (some ⟨d, 0, none⟩), .string s] w (DPost d F w (D.delete s).1 (D.delete s).2) := by
  unfold DSt.delete
  have hk0 := ((Keep.refl Nil w).alloc (.cells #[.pointer (some ⟨d, 0, none⟩)] 31)).alloc (.cells #[.string s] 9)
  have h0 := h.nil hk0
  have he0 := he.nil hk0
  have ld := h.blk.lt
  cases hp : D.perr s with
  | some k =>
    have HP := Hid.intro_ hp
    have hk := perr_lt hp
    clear hp
    go_enter Tryz.func151, Tryz.ntmps151
    go_wp2_with (first
      | (go_at_call 198; refine (powered_bad d D R F E s k _ h0 he0 HP.out).mono ?_; rintro e w1 ⟨rfl, hd1⟩)
      | (go_at_call 186; refine (told_about s E k _ hk (by exact (he0.nil (hd1.keep.alloc _)).errs)).mono ?_; rintro e w2 ⟨rfl, hk2⟩))
    go_ret
    exact ⟨rfl, (DiskTo.of_keep h (Keep.refl _ _)).nil (hk0.then_ ((hd1.keep.alloc _).then_ hk2))⟩
  | none =>
    obtain ⟨ho, hn, i, f, hf⟩ := perr_on hp
    obtain ⟨r, hr, hi⟩ := fpos_reps h hf
    simp only [hf]
    have HO := Hid.intro_ ho
    have HN := Hid.intro_ hn
    have HF := Hid.intro_ hf
    have HR := Hid.intro_ hr
    have hmf : ∀ (fn : Fn) (first cap : Array Value) (w : World), (Instr.makeFunc fn first cap).run Tryz.prog w = .ok (.func fn first cap) w := fun _ _ _ _ => rfl
    obtain ⟨Dn, hDn⟩ : ∃ x, x = D.outcome false (fun D => D.drop i f) (partOf fun D => D.drop i f) := ⟨_, rfl⟩
    rw [← hDn]
    have HDn := Hid.intro_ hDn
    have zA : ((w.alloc (.cells #[.pointer (some ⟨d, 0, none⟩)] 31)).alloc (.cells #[.string s] 9)).heap.size = w.heap.size + 1 + 1 := by simp
    have hkq := ((hk0.alloc (.cells #[.pointer (some ⟨r.1, 0, none⟩)] 158)).drew).alloc (.cells #[.func (.func 199) #[] #[.pointer (some ⟨w.heap.size, 0, none⟩), .pointer (some ⟨w.heap.size + 1, 0, none⟩), .pointer (some ⟨w.heap.size + 1 + 1, 0, none⟩)]] 1)
    have b0 := ((((Blk.new_at w 31 #[.pointer (some ⟨d, 0, none⟩)] rfl).alloc (.cells #[.string s] 9)).alloc (.cells #[.pointer (some ⟨r.1, 0, none⟩)] 158)).drew).alloc (.cells #[.func (.func 199) #[] #[.pointer (some ⟨w.heap.size, 0, none⟩), .pointer (some ⟨w.heap.size + 1, 0, none⟩), .pointer (some ⟨w.heap.size + 1 + 1, 0, none⟩)]] 1)
    have b1 := (((Blk.new_at (w.alloc (.cells #[.pointer (some ⟨d, 0, none⟩)] 31)) 9 #[.string s] (by simp : _ = w.heap.size + 1)).alloc (.cells #[.pointer (some ⟨r.1, 0, none⟩)] 158)).drew).alloc (.cells #[.func (.func 199) #[] #[.pointer (some ⟨w.heap.size, 0, none⟩), .pointer (some ⟨w.heap.size + 1, 0, none⟩), .pointer (some ⟨w.heap.size + 1 + 1, 0, none⟩)]] 1)
    have b2 := ((Blk.new_at _ 158 #[.pointer (some ⟨r.1, 0, none⟩)] zA).drew).alloc (.cells #[.func (.func 199) #[] #[.pointer (some ⟨w.heap.size, 0, none⟩), .pointer (some ⟨w.heap.size + 1, 0, none⟩), .pointer (some ⟨w.heap.size + 1 + 1, 0, none⟩)]] 1)
    have hact := act_whole d (w.heap.size + 1 + 1 + 1) D R F E false 199 #[.pointer (some ⟨w.heap.size, 0, none⟩), .pointer (some ⟨w.heap.size + 1, 0, none⟩), .pointer (some ⟨w.heap.size + 1 + 1, 0, none⟩)] (fun D => D.drop i f) _ (h.nil hkq) (he.nil hkq) (fun w => delete_enters _ _ _ w)
      ((Blk.new_at _ _ _ (by simp)).at_ 0) (fun e => by omega)
      (fun w1 h1 k1 => delete_do d _ _ _ i D.numbered R F s f r w1 h1 HF.out HR.out (cell_keep (b0.at_ 0) k1 (fun (e : w.heap.size = d) => by omega)) (cell_keep (b1.at_ 0) k1 (fun (e : w.heap.size + 1 = d) => by omega)) (cell_keep (b2.at_ 0) k1 (fun (e : w.heap.size + 1 + 1 = d) => by omega)) (fun hb => by have := h.lt _ hb; omega) (fun hb => by have := h.lt _ hb; omega))
    rw [← HDn.out] at hact
    clear hp ho hn hf hr hi hDn b0 b1 b2
    go_enter Tryz.func151, Tryz.ntmps151
    go_wp2_with (go_at_call 198; refine (powered_ok d D R F s i f r _ h0 HO.out HN.out HF.out HR.out).mono ?_; rintro e w' ⟨rfl, rfl⟩)
    go_region_with (first
      | (go_at_call 189; refine (whole_any _ _ ⟨_, _, rfl⟩).mono ?_; rintro e w1 ⟨rfl, rfl⟩)
      | (go_at_call 188; refine hact.mono ?_
         rintro e w1 ⟨v, rfl, hv, hD1⟩)
      | (go_at_call 186; refine (told_v E _ _ _ hv ?hE2).mono ?_
         case hE2 => exact hD1.env (he.nil hkq)
         rintro e w2 ⟨rfl, hk2⟩))
    all_goals
      go_wp2
      go_ret
      exact ⟨rfl, (hD1.nil hk2).from_nil hkq⟩
end Go.Proofs.YtadipinnbehhhaaGreatDoor
namespace Go.Proofs.YtadipinnbehhhaaGreatDoor
abbrev muLink : Go.Conc.Locks.MuLink := { lock := 130, unlock := 131, ilock := 190, iunlock := 191, lockSlow := 232, unlockSlow := 235, disable := 228, enable := 230, acquire := 231, relMerge := 233, cas32 := 229, add32 := 234, tMutex := 240, tIMutex := 238, tPMutex := 216, tPIMutex := 347, tPI32 := 349, tUP := 351, tNoCopy := 235, tU32 := 236 }
theorem muLib : Go.Conc.Locks.MuLib Tryz.prog muLink :=
  ⟨Tryz.func130, Tryz.func131, Tryz.func190, Tryz.func191, Tryz.func228, Tryz.func230, Tryz.func231, Tryz.func233, Tryz.func229, Tryz.func234,
   Tryz.underlying238, Tryz.runUnderlying238, Tryz.sizeOf238, Tryz.isAgg238, Tryz.zeroValue238,
   Tryz.underlying240, Tryz.runUnderlying240, Tryz.sizeOf240, Tryz.isAgg240, Tryz.zeroValue240,
   Tryz.underlying216, Tryz.runUnderlying216, Tryz.sizeOf216, Tryz.isAgg216, Tryz.zeroValue216,
   Tryz.underlying347, Tryz.runUnderlying347, Tryz.sizeOf347, Tryz.isAgg347, Tryz.zeroValue347,
   Tryz.underlying349, Tryz.runUnderlying349, Tryz.sizeOf349, Tryz.isAgg349, Tryz.zeroValue349,
   Tryz.underlying351, Tryz.runUnderlying351, Tryz.sizeOf351, Tryz.isAgg351, Tryz.zeroValue351,
   Tryz.underlying235, Tryz.runUnderlying235, Tryz.sizeOf235, Tryz.isAgg235, Tryz.zeroValue235,
   Tryz.underlying21, Tryz.runUnderlying21, Tryz.sizeOf21, Tryz.isAgg21, Tryz.zeroValue21, (by kernel_rfl)⟩
end Go.Proofs.YtadipinnbehhhaaGreatDoor
namespace Go.Proofs.YtadipinnbehhhaaGreatDoor
open Go.RowKit Go.MuLone Go.Conc.Locks

/-- What a purse keeps. -/
structure PSt where
  limit : Int
  hand : Int
  parts : Int
  opn : Int
  closed : Bool
  peak : Int

def PSt.out (s : PSt) : Int := s.hand + s.parts
def PSt.free (s : PSt) : Int := s.limit - s.out
/-- Its numbers are in their ranges. -/
structure PSt.Ok (s : PSt) : Prop where
  h0 : 0 ≤ s.hand
  p0 : 0 ≤ s.parts
  le : s.hand + s.parts ≤ s.limit
  lim : s.limit ≤ 9223372036854775807
  o0 : 0 ≤ s.opn
  o1 : s.opn ≤ 9223372036854775806
  k0 : 0 ≤ s.peak
  k1 : s.peak ≤ s.limit

def PSt.cells (s : PSt) (lk : Nat) (of : Option Nat) : Array Value :=
  #[.pointer (some ⟨lk, 0, none⟩), .int .i64 s.limit, .int .i64 s.hand, .int .i64 s.parts, .int .i64 s.opn, .bool s.closed, .int .i64 s.peak, .pointer (of.map fun q => ⟨q, 0, none⟩)]

def LockAt (w : World) (lk : Nat) (n : Int) : Prop := Blk w lk 240 #[.int .i32 n, .int .u32 0]
def PBlk (w : World) (p lk : Nat) (of : Option Nat) (s : PSt) : Prop := Blk w p 222 (s.cells lk of)

set_option maxHeartbeats 400000 in
theorem out_any (p lk : Nat) (of : Option Nat) (s : PSt) (w : World) (hb : PBlk w p lk of s) (hs : s.Ok) :
    Calls Tryz.prog 132 #[.pointer (some ⟨p, 0, none⟩)] w fun e w' => e = .returned (.int .i64 (s.hand + s.parts)) ∧ Drawn w w' := by
  have c2 : w.cell? ⟨p, 2, none⟩ = some (.int .i64 s.hand) := hb.at_ 2
  have c3 : w.cell? ⟨p, 3, none⟩ = some (.int .i64 s.parts) := hb.at_ 3
  obtain ⟨h0, p0, le, lim, _, _, _, _⟩ := hs
  clear hb
  go_enter Tryz.func132, Tryz.ntmps132
  go_wp2
  go_quiet (fail)
  go_wp2
  go_ret
  exact ⟨rfl, ⟨⟨_, rfl⟩⟩⟩


/-- A contract of a call that only draws, as the quiet walk asks it. -/
theorem quiet_drawn {f : FuncId} {args : Array Value} {w : World} {n : Nat} {v : Value} (h : Calls Tryz.prog f args (w.drewN n) fun e w' => e = .returned v ∧ Drawn (w.drewN n) w') :
    Calls Tryz.prog f args (w.drewN n) fun e w'' => e = .returned v ∧ ∃ m, w'' = w.drewN m :=
  Calls.quiet_of (h.mono fun _ _ ⟨he, hd⟩ => ⟨he, hd.out⟩)

set_option maxHeartbeats 400000 in
theorem free_any (p lk : Nat) (of : Option Nat) (s : PSt) (w : World) (hb : PBlk w p lk of s) (hs : s.Ok) :
    Calls Tryz.prog 183 #[.pointer (some ⟨p, 0, none⟩)] w fun e w' => e = .returned (.int .i64 (s.limit - (s.hand + s.parts))) ∧ Drawn w w' := by
  have c1 : w.cell? ⟨p, 1, none⟩ = some (.int .i64 s.limit) := hb.at_ 1
  obtain ⟨h0, p0, le, lim, _, _, _, _⟩ := id hs
  have s0 : 0 ≤ s.hand + s.parts := by omega
  go_enter Tryz.func183, Tryz.ntmps183
  go_wp2
  go_quiet ((go_at_call 132; exact quiet_drawn (out_any p lk of s _ (Blk.drewN hb _) hs)))
  go_wp2
  go_ret
  exact ⟨rfl, ⟨⟨_, rfl⟩⟩⟩

/-- What is wrong with taking out n records. -/
def PSt.asked (s : PSt) (n : Int) : Int := if s.closed then 6 else if n < 0 then 1 else if s.limit - (s.hand + s.parts) < n then 2 else 0

set_option maxHeartbeats 400000 in
theorem asked_any (p lk : Nat) (of : Option Nat) (s : PSt) (n : Int) (w : World) (hb : PBlk w p lk of s) (hs : s.Ok) :
    Calls Tryz.prog 184 #[.pointer (some ⟨p, 0, none⟩), .int .i64 n] w fun e w' => e = .returned (.int .i64 (s.asked n)) ∧ Drawn w w' := by
  have c5 : w.cell? ⟨p, 5, none⟩ = some (.bool s.closed) := hb.at_ 5
  by_cases q : s.closed = true
  · rw [q] at c5
    go_enter Tryz.func184, Tryz.ntmps184
    go_wp2
    go_ret
    exact ⟨by simp [PSt.asked, q], Drawn.refl _⟩
  have q' : s.closed = false := by simpa using q
  rw [q'] at c5
  by_cases q1 : n < 0
  · go_enter Tryz.func184, Tryz.ntmps184
    go_wp2
    go_ret
    exact ⟨by simp [PSt.asked, q', q1], Drawn.refl _⟩
  by_cases q2 : s.limit - (s.hand + s.parts) < n
  · go_enter Tryz.func184, Tryz.ntmps184
    go_wp2_with (go_at_call 183; refine (free_any p lk of s _ hb hs).mono ?_; rintro e w' ⟨rfl, hd⟩)
    go_ret
    exact ⟨by simp [PSt.asked, q', q2]; omega, hd⟩
  · go_enter Tryz.func184, Tryz.ntmps184
    go_wp2_with (go_at_call 183; refine (free_any p lk of s _ hb hs).mono ?_; rintro e w' ⟨rfl, hd⟩)
    go_ret
    exact ⟨by simp [PSt.asked, q']; omega, hd⟩

/-- The peak behind what is out now. -/
def PSt.risen (s : PSt) : PSt := { s with peak := max s.peak (s.hand + s.parts) }

theorem load_law {a : Addr} {x : Int} {w : World} (hc : w.cell? a = some (.int .i64 x)) :
    (callFunc 173 #[.pointer (some a)]).run Tryz.prog w = .ok (.value (.int .i64 x)) w :=
  run_call_load (P := Tryz.prog) Tryz.func173 (by kernel_rfl) (by kernel_rfl) (by kernel_rfl) .i64 (by kernel_rfl) hc
theorem store_law {a : Addr} {y : Int} {u : Value} {w : World} (hc : w.cell? a = some u) (hz : w.frozen? a = false) :
    (callFunc 261 #[.pointer (some a), .int .i64 y]).run Tryz.prog w = .ok (.value (.tuple #[])) (w.setCell a (.int .i64 y)) :=
  run_call_store (P := Tryz.prog) Tryz.func261 (by kernel_rfl) (by kernel_rfl) (by kernel_rfl) (by kernel_rfl) hc hz

set_option maxHeartbeats 400000 in
theorem load_any (b o : Nat) (x : Int) (w : World) (hc : w.cell? ⟨b, o, none⟩ = some (.int .i64 x)) :
    Calls Tryz.prog 113 #[.pointer (some ⟨b, o, none⟩)] w fun e w' => e = .returned (.int .i64 x) ∧ w' = w := by
  have hl := load_law hc
  go_enter Tryz.func113, Tryz.ntmps113
  go_wp2
  go_ret
  exact ⟨rfl, rfl⟩
set_option maxHeartbeats 400000 in
theorem store_any (b o : Nat) (y : Int) (u : Value) (w : World) (hc : w.cell? ⟨b, o, none⟩ = some u) (hz : w.frozen? ⟨b, o, none⟩ = false) :
    Calls Tryz.prog 223 #[.pointer (some ⟨b, o, none⟩), .int .i64 y] w fun e w' => e = .returned (.tuple #[]) ∧ w' = w.setCell ⟨b, o, none⟩ (.int .i64 y) := by
  have hl := store_law (y := y) hc hz
  go_enter Tryz.func223, Tryz.ntmps223
  go_wp2
  go_end0
  exact ⟨rfl, rfl⟩
set_option maxHeartbeats 400000 in
theorem risen_any (p lk : Nat) (of : Option Nat) (s : PSt) (w : World) (hb : PBlk w p lk of s) (hs : s.Ok) :
    Calls Tryz.prog 185 #[.pointer (some ⟨p, 0, none⟩)] w fun e w' => e = .returned (.tuple #[]) ∧ ∃ n, w' = (w.drewN n).setCell ⟨p, 6, none⟩ (.int .i64 s.risen.peak) := by
  have c6 : w.cell? ⟨p, 6, none⟩ = some (.int .i64 s.peak) := hb.at_ 6
  have f6 : w.frozen? ⟨p, 6, none⟩ = false := hb.fr 6
  obtain ⟨h0, p0, le, lim, _, _, k0, k1⟩ := id hs
  have s0 : 0 ≤ s.hand + s.parts := by omega
  by_cases q : s.peak < s.hand + s.parts
  all_goals
    go_enter Tryz.func185, Tryz.ntmps185
    go_region_with (first
      | (go_at_call 113; refine (load_any p 6 s.peak _ (by exact c6)).mono ?_; rintro e w' ⟨rfl, rfl⟩)
      | (go_at_call 132; refine (out_any p lk of s _ (by exact hb) hs).mono ?_; rintro e wx ⟨rfl, hd⟩; obtain ⟨n, rfl⟩ := hd.out)
      | (go_at_call 223; refine (store_any p 6 _ _ _ (by exact c6) (by exact f6)).mono ?_; rintro e wx ⟨rfl, rfl⟩))
    go_wp2
    go_end0
  · refine ⟨rfl, 1 + n, ?_⟩
    rw [show s.risen.peak = s.hand + s.parts from by simp only [PSt.risen]; omega]
  · refine ⟨rfl, 1 + n, ?_⟩
    rw [show s.risen.peak = s.peak from by simp only [PSt.risen]; omega]
end Go.Proofs.YtadipinnbehhhaaGreatDoor
namespace Go.Proofs.YtadipinnbehhhaaGreatDoor
open Go.RowKit Go.MuLone Go.Conc.Locks

/-- A purse at rest: its block, and its lock, which is free. -/
structure PurseAt (w : World) (p lk : Nat) (of : Option Nat) (s : PSt) : Prop where
  blk : PBlk w p lk of s
  lock : LockAt w lk 0
  ok : s.Ok

/-- One block. -/
def One (a : Nat) : Nat → Prop := fun b => b = a
/-- The blocks of a purse. -/
def PF (p lk : Nat) : Nat → Prop := fun b => b = p ∨ b = lk
theorem One.pf {p lk : Nat} {w w' : World} (h : Keep (One lk) w w') : Keep (PF p lk) w w' := h.mono fun _ _ h => .inr h

theorem lock_any (lk : Nat) (w : World) (h : LockAt w lk 0) :
    Calls Tryz.prog 130 #[.pointer (some ⟨lk, 0, none⟩)] w fun e w' => e = .returned (.tuple #[]) ∧ LockAt w' lk 1 ∧ Keep (One lk) w w' :=
  (lock_free muLib ⟨lk, 0, none⟩ w (h.at_ 0) (h.fr 0)).mono fun _ _ ⟨he, hw⟩ => ⟨he, by subst hw; exact Blk.set_ h 0 _, by subst hw; exact (Keep.refl (One lk) w).setCell (p := ⟨lk, 0, none⟩) (fun _ => rfl) _⟩
theorem unlock_later (lk : Nat) (u : FrameMode) (w : World) (h : LockAt w lk 1) :
    CallsD Tryz.prog 131 #[.pointer (some ⟨lk, 0, none⟩)] u w fun e u' w' => u' = u ∧ e = .returned (.tuple #[]) ∧ LockAt w' lk 0 ∧ Keep (One lk) w w' :=
  (unlock_deferred muLib ⟨lk, 0, none⟩ u w (h.at_ 0) (h.fr 0)).mono fun _ _ _ ⟨hu, he, hw⟩ => ⟨hu, he, by subst hw; exact Blk.set_ h 0 _, by subst hw; exact (Keep.refl (One lk) w).setCell (p := ⟨lk, 0, none⟩) (fun _ => rfl) _⟩

theorem PurseAt.ne {w : World} {p lk : Nat} {of : Option Nat} {s : PSt} (h : PurseAt w p lk of s) : p ≠ lk := Blk.ne_ h.blk h.lock (by decide)
theorem PurseAt.keep {w w' : World} {p lk : Nat} {of : Option Nat} {s : PSt} {F : Nat → Prop} (h : PurseAt w p lk of s) (k : Keep F w w') (h1 : ¬ F p) (h2 : ¬ F lk) : PurseAt w' p lk of s :=
  ⟨Blk.keep h.blk k h1, Blk.keep h.lock k h2, h.ok⟩

/-- n more are out by hand. -/
def PSt.took (s : PSt) (n : Int) : PSt := PSt.risen { s with hand := s.hand + n }
def PSt.take (s : PSt) (n : Int) : PSt := if s.asked n = 0 then s.took n else s
/-- What is wrong with giving n back. -/
def PSt.gives (s : PSt) (n : Int) : Int := if s.closed then 6 else if n < 0 then 1 else if s.hand < n then 20 else 0
def PSt.give (s : PSt) (n : Int) : PSt := if s.gives n = 0 then { s with hand := s.hand - n } else s

theorem asked_zero {s : PSt} {n : Int} (h : s.asked n = 0) : s.closed = false ∧ 0 ≤ n ∧ n ≤ s.limit - (s.hand + s.parts) := by
  unfold PSt.asked at h
  split at h
  · omega
  · split at h
    · omega
    · split at h
      · omega
      · rename_i h1 h2 h3
        exact ⟨by simpa using h1, by omega, by omega⟩
theorem gives_zero {s : PSt} {n : Int} (h : s.gives n = 0) : s.closed = false ∧ 0 ≤ n ∧ n ≤ s.hand := by
  unfold PSt.gives at h
  split at h
  · omega
  · split at h
    · omega
    · split at h
      · omega
      · rename_i h1 h2 h3
        exact ⟨by simpa using h1, by omega, by omega⟩
theorem took_ok {s : PSt} {n : Int} (hs : s.Ok) (h : s.asked n = 0) : PSt.Ok { s with hand := s.hand + n } ∧ (s.took n).Ok := by
  obtain ⟨_, h2, h3⟩ := asked_zero h
  obtain ⟨i0, i1, i2, i3, i4, i5, i6, i7⟩ := hs
  constructor
  · constructor <;> simp only <;> omega
  · constructor <;> simp only [PSt.took, PSt.risen] <;> omega
theorem give_ok {s : PSt} {n : Int} (hs : s.Ok) : (s.give n).Ok := by
  unfold PSt.give
  split
  · rename_i h
    obtain ⟨_, h2, h3⟩ := gives_zero h
    obtain ⟨i0, i1, i2, i3, i4, i5, i6, i7⟩ := hs
    constructor <;> simp only <;> omega
  · exact hs

set_option maxHeartbeats 800000 in
theorem take_any (p lk : Nat) (of : Option Nat) (s : PSt) (n : Int) (w : World) (h : PurseAt w p lk of s) :
    Calls Tryz.prog 127 #[.pointer (some ⟨p, 0, none⟩), .int .i64 n] w fun e w' =>
      e = .returned (.int .i64 (s.asked n)) ∧ PurseAt w' p lk of (s.take n) ∧ Keep (PF p lk) w w' := by
  have hne := h.ne
  have hne' : lk ≠ p := Ne.symm hne
  obtain ⟨hb, hl, hs⟩ := h
  have c0 : w.cell? ⟨p, 0, none⟩ = some (.pointer (some ⟨lk, 0, none⟩)) := hb.at_ 0
  by_cases q : s.asked n = 0
  · have q' : (s.asked n != 0) = false := by simp [q]
    obtain ⟨hs1, hs2⟩ := took_ok hs q
    obtain ⟨q1, q2, q3⟩ := asked_zero q
    obtain ⟨i0, i1, i2, i3, i4, i5, i6, i7⟩ := id hs
    have HQ := Hid.intro_ q
    clear q q1
    go_enter_defers Tryz.func127, Tryz.ntmps127
    go_wp2_with (first
      | (go_at_call 130; refine (lock_any lk _ hl).mono ?_; rintro e w1 ⟨rfl, hl1, hk1⟩
         have hb1 : PBlk w1 p lk of s := Blk.keep hb hk1 hne
         have c01 : w1.cell? ⟨p, 0, none⟩ = some (.pointer (some ⟨lk, 0, none⟩)) := hb1.at_ 0
         have c21 : w1.cell? ⟨p, 2, none⟩ = some (.int .i64 s.hand) := hb1.at_ 2
         have f21 : w1.frozen? ⟨p, 2, none⟩ = false := hb1.fr 2)
      | (go_at_call 184; refine (asked_any p lk of s n _ hb1 hs).mono ?_; rintro e w2 ⟨rfl, hd⟩; obtain ⟨m, rfl⟩ := hd.out
         have hb3 : PBlk ((w1.drewN m).setCell ⟨p, 2, none⟩ (.int .i64 (s.hand + n))) p lk of { s with hand := s.hand + n } := Blk.set_ (Blk.drewN hb1 m) 2 _)
      | (go_at_call 185; refine (risen_any p lk of { s with hand := s.hand + n } _ (by exact hb3) hs1).mono ?_; rintro e w3 ⟨rfl, k, rfl⟩))
    refine leaves_cons (f := 131) (args := #[.pointer (some ⟨lk, 0, none⟩)]) (by simp) (by simp [go_sem]) ?_
    refine (unlock_later lk .returning _ ?_).mono ?_
    · exact Blk.far (Blk.drewN (Blk.far (Blk.drewN hl1 m) (by exact hne') _) k) (by exact hne') _
    rintro e u' w4 ⟨rfl, rfl, hl4, hk4⟩
    refine ⟨_, results_tmp rfl _ _ _, ?_, ⟨?_, hl4, ?_⟩, ?_⟩
    · rw [HQ.out]; rfl
    · rw [show s.take n = s.took n from if_pos HQ.out]
      exact Blk.keep (Blk.set_ (Blk.drewN hb3 k) 6 _) hk4 hne
    · rw [show s.take n = s.took n from if_pos HQ.out]; exact hs2
    · exact (((((One.pf hk1).drewN m).setCell (p := ⟨p, 2, none⟩) (fun _ => .inl rfl) _).drewN k).setCell (p := ⟨p, 6, none⟩) (fun _ => .inl rfl) _).then_ (One.pf hk4)
  · have q' : (s.asked n != 0) = true := by simp [q]
    have HQ := Hid.intro_ q
    clear q
    go_enter_defers Tryz.func127, Tryz.ntmps127
    go_wp2_with (first
      | (go_at_call 130; refine (lock_any lk _ hl).mono ?_; rintro e w1 ⟨rfl, hl1, hk1⟩
         have hb1 : PBlk w1 p lk of s := Blk.keep hb hk1 hne
         have c01 : w1.cell? ⟨p, 0, none⟩ = some (.pointer (some ⟨lk, 0, none⟩)) := hb1.at_ 0)
      | (go_at_call 184; refine (asked_any p lk of s n _ hb1 hs).mono ?_; rintro e w2 ⟨rfl, hd⟩; obtain ⟨m, rfl⟩ := hd.out))
    refine leaves_cons (f := 131) (args := #[.pointer (some ⟨lk, 0, none⟩)]) (by simp) (by simp [go_sem]) ?_
    refine (unlock_later lk .returning _ ?_).mono ?_
    · exact Blk.drewN hl1 m
    rintro e u' w4 ⟨rfl, rfl, hl4, hk4⟩
    refine ⟨_, results_tmp rfl _ _ _, rfl, ⟨?_, hl4, ?_⟩, ?_⟩
    · rw [show s.take n = s from if_neg HQ.out]
      exact Blk.keep (Blk.drewN hb1 m) hk4 hne
    · rw [show s.take n = s from if_neg HQ.out]; exact hs
    · exact ((One.pf hk1).drewN m).then_ (One.pf hk4)

set_option maxHeartbeats 800000 in
theorem give_any (p lk : Nat) (of : Option Nat) (s : PSt) (n : Int) (w : World) (h : PurseAt w p lk of s) :
    Calls Tryz.prog 129 #[.pointer (some ⟨p, 0, none⟩), .int .i64 n] w fun e w' =>
      e = .returned (.int .i64 (s.gives n)) ∧ PurseAt w' p lk of (s.give n) ∧ Keep (PF p lk) w w' := by
  have hne := h.ne
  have hne' : lk ≠ p := Ne.symm hne
  have hgo := give_ok (n := n) h.ok
  obtain ⟨hb, hl, hs⟩ := h
  have c0 : w.cell? ⟨p, 0, none⟩ = some (.pointer (some ⟨lk, 0, none⟩)) := hb.at_ 0
  obtain ⟨i0, i1, i2, i3, i4, i5, i6, i7⟩ := id hs
  by_cases q : s.gives n = 0
  · obtain ⟨q1, q2, q3⟩ := gives_zero q
    have HQ := Hid.intro_ q
    clear q
    go_enter_defers Tryz.func129, Tryz.ntmps129
    go_wp2_with (first
      | (go_at_call 130; refine (lock_any lk _ hl).mono ?_; rintro e w1 ⟨rfl, hl1, hk1⟩
         have hb1 : PBlk w1 p lk of s := Blk.keep hb hk1 hne
         have c01 : w1.cell? ⟨p, 0, none⟩ = some (.pointer (some ⟨lk, 0, none⟩)) := hb1.at_ 0
         have c51 : w1.cell? ⟨p, 5, none⟩ = some (.bool false) := by rw [← q1]; exact hb1.at_ 5
         have c21 : w1.cell? ⟨p, 2, none⟩ = some (.int .i64 s.hand) := hb1.at_ 2
         have f21 : w1.frozen? ⟨p, 2, none⟩ = false := hb1.fr 2
         have hb3 : PBlk (w1.setCell ⟨p, 2, none⟩ (.int .i64 (s.hand - n))) p lk of { s with hand := s.hand - n } := Blk.set_ hb1 2 _))
    refine leaves_cons (f := 131) (args := #[.pointer (some ⟨lk, 0, none⟩)]) (by simp) (by simp [go_sem]) ?_
    refine (unlock_later lk .returning _ ?_).mono ?_
    · exact Blk.far hl1 (by exact hne') _
    rintro e u' w4 ⟨rfl, rfl, hl4, hk4⟩
    refine ⟨_, results_tmp rfl _ _ _, ?_, ⟨?_, hl4, hgo⟩, ?_⟩
    · rw [HQ.out]; rfl
    · rw [show s.give n = { s with hand := s.hand - n } from if_pos HQ.out]
      exact Blk.keep hb3 hk4 hne
    · exact ((One.pf hk1).setCell (p := ⟨p, 2, none⟩) (fun _ => .inl rfl) _).then_ (One.pf hk4)
  · have hg : s.give n = s := if_neg q
    rw [hg]
    clear hg hgo
    have key : ∃ v : Int, s.gives n = v ∧ ((s.closed = true ∧ v = 6) ∨ (s.closed = false ∧ n < 0 ∧ v = 1) ∨ (s.closed = false ∧ 0 ≤ n ∧ s.hand < n ∧ v = 20)) := by
      refine ⟨_, rfl, ?_⟩
      unfold PSt.gives at q ⊢
      cases hc : s.closed <;> simp [hc] at q ⊢
      split at q <;> omega
    obtain ⟨v, hv, hcase⟩ := key
    rw [hv]
    clear q hv
    rcases hcase with ⟨q1, q2⟩ | ⟨q1, q2, q3⟩ | ⟨q1, q2, q3, q4⟩
    · subst q2
      go_enter_defers Tryz.func129, Tryz.ntmps129
      go_wp2_with (first
        | (go_at_call 130; refine (lock_any lk _ hl).mono ?_; rintro e w1 ⟨rfl, hl1, hk1⟩
           have hb1 : PBlk w1 p lk of s := Blk.keep hb hk1 hne
           have c01 : w1.cell? ⟨p, 0, none⟩ = some (.pointer (some ⟨lk, 0, none⟩)) := hb1.at_ 0
           have c51 : w1.cell? ⟨p, 5, none⟩ = some (.bool true) := by rw [← q1]; exact hb1.at_ 5))
      refine leaves_cons (f := 131) (args := #[.pointer (some ⟨lk, 0, none⟩)]) (by simp) (by simp [go_sem]) ?_
      refine (unlock_later lk .returning _ (by exact hl1)).mono ?_
      rintro e u' w4 ⟨rfl, rfl, hl4, hk4⟩
      exact ⟨_, results_tmp rfl _ _ _, rfl, ⟨Blk.keep hb1 hk4 hne, hl4, hs⟩, (One.pf hk1).then_ (One.pf hk4)⟩
    · subst q3
      go_enter_defers Tryz.func129, Tryz.ntmps129
      go_wp2_with (first
        | (go_at_call 130; refine (lock_any lk _ hl).mono ?_; rintro e w1 ⟨rfl, hl1, hk1⟩
           have hb1 : PBlk w1 p lk of s := Blk.keep hb hk1 hne
           have c01 : w1.cell? ⟨p, 0, none⟩ = some (.pointer (some ⟨lk, 0, none⟩)) := hb1.at_ 0
           have c51 : w1.cell? ⟨p, 5, none⟩ = some (.bool false) := by rw [← q1]; exact hb1.at_ 5))
      refine leaves_cons (f := 131) (args := #[.pointer (some ⟨lk, 0, none⟩)]) (by simp) (by simp [go_sem]) ?_
      refine (unlock_later lk .returning _ (by exact hl1)).mono ?_
      rintro e u' w4 ⟨rfl, rfl, hl4, hk4⟩
      exact ⟨_, results_tmp rfl _ _ _, rfl, ⟨Blk.keep hb1 hk4 hne, hl4, hs⟩, (One.pf hk1).then_ (One.pf hk4)⟩
    · subst q4
      go_enter_defers Tryz.func129, Tryz.ntmps129
      go_wp2_with (first
        | (go_at_call 130; refine (lock_any lk _ hl).mono ?_; rintro e w1 ⟨rfl, hl1, hk1⟩
           have hb1 : PBlk w1 p lk of s := Blk.keep hb hk1 hne
           have c01 : w1.cell? ⟨p, 0, none⟩ = some (.pointer (some ⟨lk, 0, none⟩)) := hb1.at_ 0
           have c21 : w1.cell? ⟨p, 2, none⟩ = some (.int .i64 s.hand) := hb1.at_ 2
           have c51 : w1.cell? ⟨p, 5, none⟩ = some (.bool false) := by rw [← q1]; exact hb1.at_ 5))
      refine leaves_cons (f := 131) (args := #[.pointer (some ⟨lk, 0, none⟩)]) (by simp) (by simp [go_sem]) ?_
      refine (unlock_later lk .returning _ (by exact hl1)).mono ?_
      rintro e u' w4 ⟨rfl, rfl, hl4, hk4⟩
      exact ⟨_, results_tmp rfl _ _ _, rfl, ⟨Blk.keep hb1 hk4 hne, hl4, hs⟩, (One.pf hk1).then_ (One.pf hk4)⟩

set_option maxHeartbeats 800000 in
theorem used_any (p lk : Nat) (of : Option Nat) (s : PSt) (w : World) (h : PurseAt w p lk of s) :
    Calls Tryz.prog 64 #[.pointer (some ⟨p, 0, none⟩)] w fun e w' =>
      e = .returned (.int .i64 (s.hand + s.parts)) ∧ PurseAt w' p lk of s ∧ Keep (PF p lk) w w' := by
  have hne := h.ne
  obtain ⟨hb, hl, hs⟩ := h
  have c0 : w.cell? ⟨p, 0, none⟩ = some (.pointer (some ⟨lk, 0, none⟩)) := hb.at_ 0
  go_enter_defers Tryz.func64, Tryz.ntmps64
  go_wp2_with (first
    | (go_at_call 130; refine (lock_any lk _ hl).mono ?_; rintro e w1 ⟨rfl, hl1, hk1⟩
       have hb1 : PBlk w1 p lk of s := Blk.keep hb hk1 hne
       have c01 : w1.cell? ⟨p, 0, none⟩ = some (.pointer (some ⟨lk, 0, none⟩)) := hb1.at_ 0)
    | (go_at_call 132; refine (out_any p lk of s _ hb1 hs).mono ?_; rintro e w2 ⟨rfl, hd⟩; obtain ⟨m, rfl⟩ := hd.out))
  refine leaves_cons (f := 131) (args := #[.pointer (some ⟨lk, 0, none⟩)]) (by simp) (by simp [go_sem]) ?_
  refine (unlock_later lk .returning _ (by exact hl1)).mono ?_
  rintro e u' w4 ⟨rfl, rfl, hl4, hk4⟩
  exact ⟨_, results_tmp rfl _ _ _, rfl, ⟨Blk.keep (Blk.drewN hb1 m) hk4 hne, hl4, hs⟩, ((One.pf hk1).drewN m).then_ (One.pf hk4)⟩

/-- What Free tells. -/
def PSt.frees (s : PSt) : Int := if s.closed then 0 else s.limit - (s.hand + s.parts)
set_option maxHeartbeats 800000 in
theorem frees_any (p lk : Nat) (of : Option Nat) (s : PSt) (w : World) (h : PurseAt w p lk of s) :
    Calls Tryz.prog 126 #[.pointer (some ⟨p, 0, none⟩)] w fun e w' =>
      e = .returned (.int .i64 s.frees) ∧ PurseAt w' p lk of s ∧ Keep (PF p lk) w w' := by
  have hne := h.ne
  obtain ⟨hb, hl, hs⟩ := h
  have c0 : w.cell? ⟨p, 0, none⟩ = some (.pointer (some ⟨lk, 0, none⟩)) := hb.at_ 0
  cases q : s.closed
  · have hf : s.frees = s.limit - (s.hand + s.parts) := by simp [PSt.frees, q]
    rw [hf]
    clear hf
    go_enter_defers Tryz.func126, Tryz.ntmps126
    go_wp2_with (first
      | (go_at_call 130; refine (lock_any lk _ hl).mono ?_; rintro e w1 ⟨rfl, hl1, hk1⟩
         have hb1 : PBlk w1 p lk of s := Blk.keep hb hk1 hne
         have c01 : w1.cell? ⟨p, 0, none⟩ = some (.pointer (some ⟨lk, 0, none⟩)) := hb1.at_ 0
         have c51 : w1.cell? ⟨p, 5, none⟩ = some (.bool false) := by rw [← q]; exact hb1.at_ 5)
      | (go_at_call 183; refine (free_any p lk of s _ hb1 hs).mono ?_; rintro e w2 ⟨rfl, hd⟩; obtain ⟨m, rfl⟩ := hd.out))
    refine leaves_cons (f := 131) (args := #[.pointer (some ⟨lk, 0, none⟩)]) (by simp) (by simp [go_sem]) ?_
    refine (unlock_later lk .returning _ (by exact hl1)).mono ?_
    rintro e u' w4 ⟨rfl, rfl, hl4, hk4⟩
    exact ⟨_, results_tmp rfl _ _ _, rfl, ⟨Blk.keep (Blk.drewN hb1 m) hk4 hne, hl4, hs⟩, ((One.pf hk1).drewN m).then_ (One.pf hk4)⟩
  · have hf : s.frees = 0 := by simp [PSt.frees, q]
    rw [hf]
    clear hf
    go_enter_defers Tryz.func126, Tryz.ntmps126
    go_wp2_with (first
      | (go_at_call 130; refine (lock_any lk _ hl).mono ?_; rintro e w1 ⟨rfl, hl1, hk1⟩
         have hb1 : PBlk w1 p lk of s := Blk.keep hb hk1 hne
         have c01 : w1.cell? ⟨p, 0, none⟩ = some (.pointer (some ⟨lk, 0, none⟩)) := hb1.at_ 0
         have c51 : w1.cell? ⟨p, 5, none⟩ = some (.bool true) := by rw [← q]; exact hb1.at_ 5))
    refine leaves_cons (f := 131) (args := #[.pointer (some ⟨lk, 0, none⟩)]) (by simp) (by simp [go_sem]) ?_
    refine (unlock_later lk .returning _ (by exact hl1)).mono ?_
    rintro e u' w4 ⟨rfl, rfl, hl4, hk4⟩
    exact ⟨_, results_tmp rfl _ _ _, rfl, ⟨Blk.keep hb1 hk4 hne, hl4, hs⟩, (One.pf hk1).then_ (One.pf hk4)⟩

set_option maxHeartbeats 400000 in
theorem peak_any (p lk : Nat) (of : Option Nat) (s : PSt) (w : World) (h : PBlk w p lk of s) (hs : s.Ok) :
    Calls Tryz.prog 51 #[.pointer (some ⟨p, 0, none⟩)] w fun e w' => e = .returned (.int .i64 s.peak) ∧ w' = w := by
  have c6 : w.cell? ⟨p, 6, none⟩ = some (.int .i64 s.peak) := h.at_ 6
  obtain ⟨i0, i1, i2, i3, i4, i5, i6, i7⟩ := id hs
  go_enter Tryz.func51, Tryz.ntmps51
  go_wp2_with (go_at_call 113; refine (load_any p 6 s.peak _ c6).mono ?_; rintro e w' ⟨rfl, rfl⟩)
  go_ret
  exact ⟨rfl, rfl⟩

/-- A new purse. -/
def PSt.new (limit : Int) : PSt := { limit := limit, hand := 0, parts := 0, opn := 0, closed := false, peak := 0 }
set_option maxHeartbeats 800000 in
theorem new_any (limit : Int) (w : World) (h0 : 0 ≤ limit) (h1 : limit ≤ 9223372036854775807) :
    Calls Tryz.prog 59 #[.int .i64 limit] w fun e w' => ∃ p lk, e = .returned (.tuple #[.pointer (some ⟨p, 0, none⟩), .int .i64 0]) ∧ PurseAt w' p lk none (PSt.new limit) ∧
      w.heap.size ≤ p ∧ w.heap.size ≤ lk ∧ Keep Nil w w' := by
  go_enter Tryz.func59, Tryz.ntmps59
  go_wp2
  go_ret2
  refine ⟨w.heap.size + 1, w.heap.size, rfl, ⟨Blk.new_at _ _ _ (by simp), (Blk.new_at w _ _ rfl).alloc _, ?_⟩, by omega, by omega, ((Keep.refl _ w).alloc _).alloc _⟩
  constructor <;> simp only [PSt.new] <;> omega
theorem new_neg (limit : Int) (w : World) (h0 : limit < 0) :
    Calls Tryz.prog 59 #[.int .i64 limit] w fun e w' => e = .returned (.tuple #[.pointer none, .int .i64 1]) ∧ w' = w := by
  go_enter Tryz.func59, Tryz.ntmps59
  go_wp2
  go_ret2
  exact ⟨rfl, rfl⟩
end Go.Proofs.YtadipinnbehhhaaGreatDoor
namespace Go.Proofs.YtadipinnbehhhaaGreatDoor
open Go.RowKit

/-- All blocks of a room: the disk's, the purse's, the desk's. -/
def RF (F : Nat → Prop) (p lk k : Nat) : Nat → Prop := fun b => F b ∨ PF p lk b ∨ b = k

/-- A desk over a disk and a purse. -/
structure DkAt (w : World) (F : Nat → Prop) (E : Nat → Addr) (d p lk k : Nat) (of : Option Nat) (D : DSt) (S : PSt) (K next : Int) : Prop where mk ::
  disk : ∃ R, DiskAt w F d D R
  purse : PurseAt w p lk of S
  desk : Blk w k 242 #[.pointer (some ⟨d, 0, none⟩), .pointer (some ⟨p, 0, none⟩), .int .i64 K, .int .i64 next]
  env : Env w (RF F p lk k) E
  np : ¬ F p
  nl : ¬ F lk
  nk : ¬ F k

section
variable {w w' : World} {F F' : Nat → Prop} {E : Nat → Addr} {d p lk k : Nat} {of : Option Nat} {D D' : DSt} {S S' : PSt} {K next : Int}

/-- The room turned: what it is now, and that nothing else turned. -/
def DkTo (w : World) (F : Nat → Prop) (E : Nat → Addr) (d p lk k : Nat) (of : Option Nat) (D' : DSt) (S' : PSt) (K next : Int) (w' : World) : Prop :=
  ∃ F', DkAt w' F' E d p lk k of D' S' K next ∧ Stp w (RF F p lk k) w' (RF F' p lk k)

theorem DkAt.kp (h : DkAt w F E d p lk k of D S K next) : k ≠ p := Blk.ne_ h.desk h.purse.blk (by decide)
theorem DkAt.kl (h : DkAt w F E d p lk k of D S K next) : k ≠ lk := Blk.ne_ h.desk h.purse.lock (by decide)
theorem DkAt.envd (h : DkAt w F E d p lk k of D S K next) : Env w F E := ⟨h.env.errs, fun i hi hf => h.env.nv i hi (.inl hf), fun i hi hf => h.env.nb i hi (.inl hf)⟩

theorem DkAt.nil (h : DkAt w F E d p lk k of D S K next) (q : Keep Nil w w') : DkAt w' F E d p lk k of D S K next := {
  disk := by obtain ⟨R, hd⟩ := h.disk; exact ⟨R, hd.nil q⟩
  purse := h.purse.keep q (fun h => h) (fun h => h)
  desk := h.desk.keep q (fun h => h)
  env := h.env.nil q
  np := h.np
  nl := h.nl
  nk := h.nk }
/-- Anything beside the room turned. -/
theorem DkAt.keep {G : Nat → Prop} (h : DkAt w F E d p lk k of D S K next) (q : Keep G w w') (hG : ∀ b, RF F p lk k b → ¬ G b) (hv : ∀ i, i < 9 → ¬ G (errVar i)) (hb : ∀ i, i < 9 → ¬ G (E i).block) : DkAt w' F E d p lk k of D S K next := {
  disk := by obtain ⟨R, hd⟩ := h.disk; exact ⟨R, hd.keep q (fun b hf => hG b (.inl hf))⟩
  purse := h.purse.keep q (hG _ (.inr (.inl (.inl rfl)))) (hG _ (.inr (.inl (.inr rfl))))
  desk := h.desk.keep q (hG _ (.inr (.inr rfl)))
  env := ⟨h.env.errs.keep q hv hb, h.env.nv, h.env.nb⟩
  np := h.np
  nl := h.nl
  nk := h.nk }

theorem DkAt.at_disk (h : DkAt w F E d p lk k of D S K next) (t : DiskTo d F D' w w') : DkTo w F E d p lk k of D' S K next w' := by
  obtain ⟨F', R', hd, hs⟩ := t
  have hnew : ∀ b, b < w.heap.size → ¬ F b → ¬ F' b := fun b hb hn hf => (hs.grow b hf).elim hn (fun h => by omega)
  have hlp := h.purse.blk.lt
  have hll := h.purse.lock.lt
  have hlk := h.desk.lt
  have hst : Stp w (RF F p lk k) w' (RF F' p lk k) := by
    refine ⟨hs.keep.mono (fun b _ hf => .inl hf), fun b hb => ?_⟩
    rcases hb with hf | hf
    · exact (hs.grow b hf).elim (fun h => .inl (.inl h)) .inr
    · exact .inl (.inr hf)
  exact ⟨F', ⟨⟨R', hd⟩, h.purse.keep hs.keep h.np h.nl, h.desk.keep hs.keep h.nk, h.env.step hst, hnew p hlp h.np, hnew lk hll h.nl, hnew k hlk h.nk⟩, hst⟩

theorem DkAt.at_purse (h : DkAt w F E d p lk k of D S K next) (t : PurseAt w' p lk of S') (q : Keep (PF p lk) w w') : DkTo w F E d p lk k of D S' K next w' := by
  have hst : Stp w (RF F p lk k) w' (RF F p lk k) := ⟨q.mono (fun b _ hf => .inr (.inl hf)), fun b hb => .inl hb⟩
  obtain ⟨R, hd⟩ := h.disk
  refine ⟨F, ⟨⟨R, hd.keep q ?_⟩, t, h.desk.keep q ?_, h.env.step hst, h.np, h.nl, h.nk⟩, hst⟩
  · rintro b hf (rfl | rfl)
    · exact h.np hf
    · exact h.nl hf
  · rintro (e | e)
    · exact h.kp e
    · exact h.kl e

theorem DkTo.then_ {w2 : World} {D2 : DSt} {S2 : PSt} (h : DkTo w F E d p lk k of D' S' K next w') (t : ∀ F', DkAt w' F' E d p lk k of D' S' K next → DkTo w' F' E d p lk k of D2 S2 K next w2) : DkTo w F E d p lk k of D2 S2 K next w2 := by
  obtain ⟨F1, h1, s1⟩ := h
  obtain ⟨F2, h2, s2⟩ := t F1 h1
  exact ⟨F2, h2, s1.trans s2⟩
theorem DkTo.refl (h : DkAt w F E d p lk k of D S K next) : DkTo w F E d p lk k of D S K next w := ⟨F, h, Stp.refl _ _⟩
theorem DkTo.nil {w2 : World} (h : DkTo w F E d p lk k of D' S' K next w') (q : Keep Nil w' w2) : DkTo w F E d p lk k of D' S' K next w2 := by
  obtain ⟨F1, h1, s1⟩ := h
  exact ⟨F1, h1.nil q, s1.then_nil q⟩
theorem DkTo.from_nil {w0 : World} (h : DkTo w F E d p lk k of D' S' K next w') (q : Keep Nil w0 w) : DkTo w0 F E d p lk k of D' S' K next w' := by
  obtain ⟨F1, h1, s1⟩ := h
  exact ⟨F1, h1, (Stp.of_nil q _).trans s1⟩
end

/-- May a file of that name be made? -/
def DSt.fresh (D : DSt) (s : ByteArray) : Int := if (D.length s).2.2 = 12 then 0 else if (D.length s).2.2 = 0 then 13 else (D.length s).2.2

set_option maxHeartbeats 1000000 in
theorem fresh_any (F : Nat → Prop) (E : Nat → Addr) (d p lk k : Nat) (of : Option Nat) (D : DSt) (S : PSt) (K next : Int) (s : ByteArray) (w : World) (h : DkAt w F E d p lk k of D S K next) :
    Calls Tryz.prog 125 #[.pointer (some ⟨k, 0, none⟩), .string s] w fun e w' => e = .returned (.int .i64 (D.fresh s)) ∧ Keep Nil w w' := by
  obtain ⟨R, hd⟩ := h.disk
  have hl := length_any d D R F E s w hd h.envd
  have c0 : w.cell? ⟨k, 0, none⟩ = some (.pointer (some ⟨d, 0, none⟩)) := h.desk.at_ 0
  unfold DSt.fresh
  generalize (D.length s).1 = n at *
  generalize (D.length s).2.1 = b at *
  generalize (D.length s).2.2 = q at *
  have HL := Hid.intro_ hl
  clear hl
  by_cases h1 : q = 12
  · rw [if_pos h1]
    have e1 : (q == 12) = true := by simpa using h1
    clear h1
    go_enter Tryz.func125, Tryz.ntmps125
    go_wp2_with (go_at_call 182; refine HL.out.mono ?_; rintro e w' ⟨rfl, hk⟩)
    go_ret
    exact ⟨rfl, hk⟩
  rw [if_neg h1]
  have e1 : (q == 12) = false := by simpa using h1
  clear h1
  by_cases h2 : q = 0
  · rw [if_pos h2]
    have e2 : (q == 0) = true := by simpa using h2
    clear h2
    go_enter Tryz.func125, Tryz.ntmps125
    go_wp2_with (go_at_call 182; refine HL.out.mono ?_; rintro e w' ⟨rfl, hk⟩)
    go_ret
    exact ⟨rfl, hk⟩
  · rw [if_neg h2]
    have e2 : (q == 0) = false := by simpa using h2
    clear h2
    go_enter Tryz.func125, Tryz.ntmps125
    go_wp2_with (go_at_call 182; refine HL.out.mono ?_; rintro e w' ⟨rfl, hk⟩)
    go_ret
    exact ⟨rfl, hk⟩
end Go.Proofs.YtadipinnbehhhaaGreatDoor
