/- Disk: Read. The references' SameFile, SameState: at what is the same they answer true. The references' Find, Without. The references' Copy: a state of one's own. The references' Blocks and Tape: records as blocks. The references' SameRecs: at the same records it answers true. -/
import Derived.Laws.IdiomStrings
import Derived.StillTailTactics
import Derived.Laws.AppendOwn
import Derived.Laws.StructEq
import Derived.KernelRfl
import Derived.Test.YtadipinnbehhhaaGreatDoorCubesRowAB
import Derived.Test.YtadipinnbehhhaaGreatDoorCubesRowAD
import Derived.Test.YtadipinnbehhhaaGreatDoorCubesRowAC
namespace Go.Proofs.YtadipinnbehhhaaGreatDoor
open Go.RowKit

def DSt.readOne (D : DSt) : DSt := { D with reads := wrap64 (D.reads + 1) }
def DSt.read (D : DSt) (s : ByteArray) (i : Int) : DSt × Int × Option (List Int) := match D.perr s with
  | some k => (D, errNo k, none)
  | none => match fpos s D.files with
    | none => (D, 0, none)
    | some (_, f) => if f.done = false then (D, errNo 5, none) else if i < 0 ∨ (f.blocks.length : Int) ≤ i then (D, errNo 6, none) else match D.fate true with
      | .done => (D.numbered.readOne, 0, f.blocks[i.toNat]?)
      | .fault => (D.faulted, 9, none)
      | .cut _ => (D.numbered.cutOff, 10, none)
def ReadPost (d : Nat) (F : Nat → Prop) (w : World) (q : DSt × Int × Option (List Int)) (e : Ending) (w' : World) : Prop :=
  ∃ u, e = .returned (.tuple #[u, .int .i64 q.2.1]) ∧ DiskTo d F q.1 w w' ∧ ((q.2.2 = none ∧ u = .slice none 0 0) ∨ ∃ bs, q.2.2 = some bs ∧ BsAt w' (fun b => w.heap.size ≤ b) u bs)
def ReadMid (d bo : Nat) (F : Nat → Prop) (D : DSt) (R : DRep) (bs : List Int) (w w' : World) : Prop :=
  DiskAt w' F d D.readOne R ∧ Keep (fun b => b = d ∨ b = bo) w w' ∧ ∃ u, w'.cell? ⟨bo, 0, none⟩ = some u ∧ BsAt w' (fun b => w.heap.size ≤ b) u bs
set_option maxRecDepth 100000 in
set_option maxHeartbeats 1000000 in
theorem readd_do (d bf bi bo bd i : Nat) (k : Nat) (D : DSt) (R : DRep) (F : Nat → Prop) (s : ByteArray) (f : AFile) (r : Nat × Value) (bs : List Int) (w : World) (h : DiskAt w F d D R) (hi : D.files[i]? = some (s, f)) (hr : R.reps[i]? = some r) (hk : f.blocks[k]? = some bs)
    (cf : w.cell? ⟨bf, 0, none⟩ = some (.pointer (some ⟨r.1, 0, none⟩))) (ci : w.cell? ⟨bi, 0, none⟩ = some (.int .i64 k)) (co : Blk w bo 161 #[.slice none 0 0]) (cd : w.cell? ⟨bd, 0, none⟩ = some (.pointer (some ⟨d, 0, none⟩))) (no : ¬ F bo) (_nfo : bf ≠ bo) (_nio : bi ≠ bo) (ndo : bd ≠ bo) :
    Calls Tryz.prog 282 #[.pointer (some ⟨bf, 0, none⟩), .pointer (some ⟨bi, 0, none⟩), .pointer (some ⟨bo, 0, none⟩), .pointer (some ⟨bd, 0, none⟩)] w fun e w' => e = .returned (.tuple #[]) ∧ ReadMid d bo F D R bs w w' := by
  have hfi := h.file i _ r hi hr
  obtain ⟨vs, hown, hgF, hbl⟩ := hfi.row
  have hlk := (List.getElem?_eq_some_iff.1 hk).1
  have hvl : vs.length = f.blocks.length := by simpa using hown.1
  obtain ⟨u, hu⟩ : ∃ u, vs[k]? = some u := ⟨_, List.getElem?_eq_getElem (by omega)⟩
  obtain ⟨a, c, rfl, hra, hFa, hty⟩ := (hbl k u bs hu hk).out
  obtain ⟨A, cp, hv⟩ := own_form hown
  have c1 : w.cell? ⟨r.1, 1, none⟩ = some r.2 := hfi.blk.at_ 1
  rw [hv] at c1
  have hown2 := hown
  rw [hv] at hown2
  obtain ⟨g, rfl, p⟩ := own_at hown2 hu
  have hbk := h.ok.size _ (List.mem_of_getElem? hi) bs (List.mem_of_getElem? hk)
  have hb1 := h.ok.b1
  have hcl := Hid.intro_ (clone_rd a c bs w.drew (hra.keep (Keep.refl Nil w).drew (fun _ _ _ h => h)) (by omega))
  have d5 : w.cell? ⟨d, 6, none⟩ = some (.int .i64 D.reads) := h.blk.at_ 6
  have HH := Hid.intro_ h
  have CO := Hid.intro_ co
  have lo := co.lt
  have co0 : w.cell? ⟨bo, 0, none⟩ = some (.slice none 0 0) := co.at_ 0
  have fo0 := co.fr 0
  have hk0 : 0 ≤ (k : Int) := by omega
  have hk1 : (k : Int) < (f.blocks.length : Int) := by omega
  have nd : d ≠ bo := fun e => no (by rw [← e]; exact h.fd)
  clear hfi hown hgF hbl hu hra hty hown2 hv hi hr hk hbk
  go_enter Tryz.func282, Tryz.ntmps282
  go_wp2_with fail
  go_still_tail 7, (by kernel_rfl)
  change wpList _ _ _ _ _ w.drew
  go_wp2_with fail
  refine hcl.out.mono ?_
  rintro e w1 ⟨u, rfl, hbs, k1⟩
  have kw1 := (Keep.refl Nil w).drew.then_ k1
  have o1 := cell_keep co0 kw1 (fun h => h)
  have b1 := CO.out.keep kw1 (fun h => h)
  have f1 := b1.fr 0
  have d1 := cell_keep d5 kw1 (fun h => h)
  have hd1 := HH.out.nil kw1
  have fd1 := hd1.blk.fr 6
  have e1 := cell_keep cd kw1 (fun h => h)
  obtain ⟨A2, c2, rfl, _, _, _, _⟩ := hbs.out
  have HBS := Hid.intro_ hbs
  have KW1 := Hid.intro_ kw1
  have HD1 := Hid.intro_ hd1
  have B1 := Hid.intro_ b1
  have nd2 : bo ≠ d := fun e => nd e.symm
  have ndo2 : bo ≠ bd := fun e => ndo e.symm
  clear hbs kw1 hd1 b1 k1 cf ci co0 fo0 cd d5
  go_wp2_with fail
  go_end0
  have ks := (Keep.refl (fun b => b = bo) w1).setCell (p := ⟨bo, 0, none⟩) (fun _ => rfl) (.slice A2 bs.length c2)
  have hbo : Blk (w1.setCell ⟨bo, 0, none⟩ (.slice A2 bs.length c2)) bo 161 #[.slice A2 bs.length c2] := B1.out.set_ 0 _
  have hd2 := HD1.out.keep ks (fun b hb e => no (by rw [← show b = bo from e]; exact hb))
  have kd := (Keep.refl (fun b => b = d) (w1.setCell ⟨bo, 0, none⟩ (.slice A2 bs.length c2))).setCell (p := ⟨d, 6, none⟩) (fun _ => rfl) (.int .i64 (wrap64 (D.reads + 1)))
  have hbs2 := HBS.out.far ks (fun cs fr hc => by
    have hb := B1.out
    unfold Blk at hb
    rw [hc] at hb
    injection hb with hb
    injection hb with _ hb
    exact absurd hb (by decide))
  have hbs3 := hbs2.far kd (fun cs fr hc => by
    have hb := hd2.blk
    unfold Blk at hb
    rw [hc] at hb
    injection hb with hb
    injection hb with _ hb
    exact absurd hb (by decide))
  have hok : D.readOne.Ok := by
    obtain ⟨a1, a2, a3, a4, a5, a6, a7, a8, a9, a10, a11⟩ := HH.out.ok
    exact ⟨a1, a2, a3, a4, a5, a6, a7, a8, a9, a10, a11⟩
  refine ⟨rfl, hd2.turn kd (hd2.blk.set_ 6 _) rfl rfl hok, ((KW1.out.mono (fun _ _ h => h.elim)).trans (ks.mono (fun b _ e => .inr e)) (fun _ _ h => h)).trans (kd.mono (fun b _ e => .inl e)) (fun _ _ h => h), .slice A2 bs.length c2, ?_, hbs3.mono (fun b hb _ => Nat.le_trans (Nat.le_refl _) hb)⟩
  exact cell_keep (hbo.at_ 0) kd nd2
theorem readd_enters (a b c d : Nat) (w : World) : (callFunc 282 #[.pointer (some ⟨a, 0, none⟩), .pointer (some ⟨b, 0, none⟩), .pointer (some ⟨c, 0, none⟩), .pointer (some ⟨d, 0, none⟩)]).run Tryz.prog w = .ok (.enter 282 #[.pointer (some ⟨a, 0, none⟩), .pointer (some ⟨b, 0, none⟩), .pointer (some ⟨c, 0, none⟩), .pointer (some ⟨d, 0, none⟩)]) w := by
  kernel_rfl
theorem readp_enters (n : Int) (w : World) : (callFunc 283 (#[.int .i64 n] ++ #[])).run Tryz.prog w = .ok (.enter 283 (#[.int .i64 n] ++ #[])) w := by
  kernel_rfl
theorem readp_do (n : Int) (w : World) : Calls Tryz.prog 283 (#[.int .i64 n] ++ #[]) w fun e w' => e = .returned (.tuple #[]) ∧ w' = w := by
  show Calls Tryz.prog 283 #[.int .i64 n] w _
  go_enter Tryz.func283, Tryz.ntmps283
  go_wp2
  go_end0
  exact ⟨rfl, rfl⟩
set_option maxRecDepth 100000 in
set_option maxHeartbeats 2000000 in
theorem dread_bad (d : Nat) (D : DSt) (R : DRep) (F : Nat → Prop) (E : Nat → Addr) (s : ByteArray) (i : Int) (w : World) (h : DiskAt w F d D R) (he : Env w F E)
    (hb : (∃ k, D.perr s = some k) ∨ (D.perr s = none ∧ ∃ j f, fpos s D.files = some (j, f) ∧ (f.done = false ∨ (f.done = true ∧ (i < 0 ∨ (0 ≤ i ∧ (f.blocks.length : Int) ≤ i)))))) :
    Calls Tryz.prog 251 #[.pointer (some ⟨d, 0, none⟩), .string s, .int .i64 i] w (ReadPost d F w (D.read s i)) := by
  obtain ⟨W, hW⟩ : ∃ W, W = (w.alloc (.cells #[.pointer (some ⟨d, 0, none⟩)] 31)).alloc (.cells #[.int .i64 i] 3) := ⟨_, rfl⟩
  have kW : Keep Nil w W := by rw [hW]; exact ((Keep.refl Nil w).alloc _).alloc _
  have hdW := h.nil kW
  have heW := he.nil kW
  have KW := Hid.intro_ kW
  rcases hb with ⟨k, hp⟩ | ⟨hp, j, f, hf, hq⟩
  · have HX := Hid.intro_ (show D.read s i = (D, errNo k, none) by unfold DSt.read; rw [hp])
    have hk := perr_lt hp
    have HPB := Hid.intro_ (powered_bad d D R F E s k W hdW heW hp)
    have HEW := Hid.intro_ heW
    clear hp kW hdW heW
    go_enter Tryz.func251, Tryz.ntmps251
    go_wp2_with fail
    rw [← hW]
    refine HPB.out.mono ?_
    rintro e w1 ⟨rfl, hd1⟩
    have HT := Hid.intro_ (told_about s E k (w1.alloc (.cells #[.pointer none] 158)) hk ((HEW.out.nil (hd1.keep.alloc _)).errs))
    clear hW
    go_wp2_with (go_at_call 186; refine HT.out.mono ?_; rintro e w2 ⟨rfl, hk2⟩)
    go_ret2
    rw [HX.out]
    exact ⟨.slice none 0 0, rfl, (DiskTo.of_keep h (Keep.refl _ _)).nil (KW.out.then_ ((hd1.keep.alloc _).then_ hk2)), .inl ⟨rfl, rfl⟩⟩
  · obtain ⟨ho, hn, _⟩ := perr_on hp
    obtain ⟨r, hr, hi⟩ := fpos_reps h hf
    have hfi := (hdW.file _ _ r hi hr)
    have c0 := hfi.blk.at_ 0
    have c1 := hfi.blk.at_ 1
    obtain ⟨a, cp, hv, _⟩ := hfi.len
    have HPO := Hid.intro_ (powered_ok d D R F s j f r W hdW ho hn hf hr)
    have lr := hfi.blk.lt
    have HEW := Hid.intro_ heW
    simp only [List.getElem?_toArray, List.getElem?_cons_zero, List.getElem?_cons_succ] at c0 c1
    rw [hv] at c1
    rcases hq with hq | ⟨hq, hrange⟩
    · have HX := Hid.intro_ (show D.read s i = (D, errNo 5, none) by unfold DSt.read; rw [hp]; simp only [hf]; rw [if_pos hq])
      have c0' : W.cell? ⟨r.1, 0, none⟩ = some (.int .i64 0) := by rw [c0, hq]; rfl
      have v5 : W.cell? ⟨6, 0, none⟩ = some (.iface 421 (.pointer (some (E 5)))) := heW.errs.var 5 (by decide)
      have l5 := cell_lt v5
      simp only at l5
      have p5 := Nat.lt_of_le_of_lt (Nat.zero_le _) l5
      clear hp ho hn hf hr hi hq hfi c0 kW hdW heW hv
      go_enter Tryz.func251, Tryz.ntmps251
      go_wp2_with fail
      rw [← hW]
      refine HPO.out.mono ?_
      rintro e w1 ⟨rfl, hw1⟩
      obtain rfl := hw1.symm
      have HT := Hid.intro_ (told_about s E 5 (W.alloc (.cells #[.pointer (some ⟨r.1, 0, none⟩)] 158)) (by decide) ((HEW.out.nil ((Keep.refl Nil W).alloc _)).errs))
      clear hW
      go_wp2_with (go_at_call 186; refine HT.out.mono ?_; rintro e w2 ⟨rfl, hk2⟩)
      go_ret2
      rw [HX.out]
      exact ⟨.slice none 0 0, rfl, (DiskTo.of_keep h (Keep.refl _ _)).nil (KW.out.then_ (((Keep.refl Nil W).alloc _).then_ hk2)), .inl ⟨rfl, rfl⟩⟩
    · have HX := Hid.intro_ (show D.read s i = (D, errNo 6, none) by unfold DSt.read; rw [hp]; simp only [hf]; rw [if_neg (by simp [hq]), if_pos (by rcases hrange with h | h; exact .inl h; exact .inr h.2)])
      have c0' : W.cell? ⟨r.1, 0, none⟩ = some (.int .i64 1) := by rw [c0, hq]; rfl
      have v6 : W.cell? ⟨7, 0, none⟩ = some (.iface 421 (.pointer (some (E 6)))) := heW.errs.var 6 (by decide)
      have l6 := cell_lt v6
      simp only at l6
      have p6 := Nat.lt_of_le_of_lt (Nat.zero_le _) l6
      have ci : W.cell? ⟨w.heap.size + 1, 0, none⟩ = some (.int .i64 i) := by rw [hW]; exact (Blk.new_at _ _ _ (by simp)).at_ 0
      have lc : w.heap.size + 1 < W.heap.size := cell_lt ci
      clear hp ho hn hf hr hi hq hfi c0 kW hdW heW hv
      rcases hrange with hr0 | ⟨hr0, hr1⟩
      all_goals
        go_enter Tryz.func251, Tryz.ntmps251
        go_wp2_with fail
        rw [← hW]
        refine HPO.out.mono ?_
        rintro e w1 ⟨rfl, hw1⟩
        obtain rfl := hw1.symm
        clear hW
        go_wp2_with fail
        go_quiet (fail)
        obtain ⟨Y, hY⟩ : ∃ Y, Y = (W.alloc (.cells #[.pointer (some ⟨r.1, 0, none⟩)] 158)).drewN nq := ⟨_, rfl⟩
        have kY : Keep Nil W Y := by rw [hY]; exact ((Keep.refl Nil W).alloc _).drewN _
        have HT := Hid.intro_ (told_about s E 6 Y (by decide) ((HEW.out.nil kY).errs))
        have v6' := cell_keep v6 kY (fun h => h)
        rw [← hY]
        clear hY
        go_wp2_with (go_at_call 186; refine HT.out.mono ?_; rintro e w2 ⟨rfl, hk2⟩)
        go_ret2
        rw [HX.out]
        exact ⟨.slice none 0 0, rfl, (DiskTo.of_keep h (Keep.refl _ _)).nil (KW.out.then_ (kY.then_ hk2)), .inl ⟨rfl, rfl⟩⟩
def DSt.readQ (D : DSt) (bs : List Int) : DSt × Int × Option (List Int) := match D.fate true with
  | .done => (D.numbered.readOne, 0, some bs)
  | .fault => (D.faulted, 9, none)
  | .cut _ => (D.numbered.cutOff, 10, none)
def ReadAct (d bo : Nat) (F : Nat → Prop) (E : Nat → Addr) (q : DSt × Int × Option (List Int)) (Y : World) (v : Value) (w' : World) : Prop :=
  ErrV E v q.2.1 ∧ (∃ F2 R2, DiskAt w' F2 d q.1 R2 ∧ Keep (fun b => F b ∨ b = bo) Y w' ∧ ∀ b, F2 b → F b ∨ Y.heap.size ≤ b) ∧ ∃ u, w'.cell? ⟨bo, 0, none⟩ = some u ∧ ((q.2.2 = none ∧ u = .slice none 0 0) ∨ ∃ bs, q.2.2 = some bs ∧ BsAt w' (fun b => Y.heap.size ≤ b) u bs)
theorem act_read (d bf bi bo bd j k : Nat) (D : DSt) (R : DRep) (F : Nat → Prop) (E : Nat → Addr) (s : ByteArray) (f : AFile) (r : Nat × Value) (bs : List Int) (Y : World) (h : DiskAt Y F d D R) (he : Env Y F E) (hi : D.files[j]? = some (s, f)) (hr : R.reps[j]? = some r) (hk : f.blocks[k]? = some bs)
    (cf : Y.cell? ⟨bf, 0, none⟩ = some (.pointer (some ⟨r.1, 0, none⟩))) (ci : Y.cell? ⟨bi, 0, none⟩ = some (.int .i64 k)) (co : Blk Y bo 161 #[.slice none 0 0]) (cd : Y.cell? ⟨bd, 0, none⟩ = some (.pointer (some ⟨d, 0, none⟩))) (no : ¬ F bo) (nfo : bf ≠ bo) (nio : bi ≠ bo) (ndo : bd ≠ bo) (nfd : bf ≠ d) (nid : bi ≠ d) (ndd : bd ≠ d) :
    Calls Tryz.prog 188 #[.pointer (some ⟨d, 0, none⟩), .bool true, .func (.func 282) #[] #[.pointer (some ⟨bf, 0, none⟩), .pointer (some ⟨bi, 0, none⟩), .pointer (some ⟨bo, 0, none⟩), .pointer (some ⟨bd, 0, none⟩)], .func (.func 283) #[] #[]] Y fun e w' =>
      ∃ v, e = .returned v ∧ ReadAct d bo F E (D.readQ bs) Y v w' := by
  have nod : bo ≠ d := fun e => no (by rw [e]; exact h.fd)
  cases hq : D.fate true with
  | done =>
    have hx : D.readQ bs = (D.numbered.readOne, 0, some bs) := by unfold DSt.readQ; rw [hq]
    rw [hx]
    refine (act_done d D R F true 282 283 #[.pointer (some ⟨bf, 0, none⟩), .pointer (some ⟨bi, 0, none⟩), .pointer (some ⟨bo, 0, none⟩), .pointer (some ⟨bd, 0, none⟩)] #[]
      (fun w2 => DiskAt w2 F d D.numbered.readOne R ∧ Keep (fun b => b = d ∨ b = bo) Y w2 ∧ ∃ u, w2.cell? ⟨bo, 0, none⟩ = some u ∧ BsAt w2 (fun b => Y.heap.size ≤ b) u bs) Y h hq (fun w => readd_enters _ _ _ _ w)
      (fun w1 h1 k1 => (readd_do d bf bi bo bd j k D.numbered R F s f r bs w1 h1 hi hr hk (cell_keep cf k1 nfd) (cell_keep ci k1 nid) (co.keep k1 nod) (cell_keep cd k1 ndd) no nfo nio ndo).mono fun e w2 ⟨he2, hd2, hk2, u, hu, hb⟩ => ⟨he2, hd2, (k1.mono (fun b _ e => .inl e)).trans hk2 (fun _ _ h => h), u, hu, hb.mono (fun b hb _ => Nat.le_trans k1.size hb)⟩)).mono ?_
    rintro e w2 ⟨rfl, hd2, hk2, u, hu, hb⟩
    exact ⟨_, rfl, .inl ⟨rfl, rfl⟩, ⟨F, R, hd2, hk2.mono (fun b _ e => e.imp (fun e => by rw [e]; exact h.fd) id), fun b hb => .inl hb⟩, u, hu, .inr ⟨bs, rfl, hb⟩⟩
  | fault =>
    have hx : D.readQ bs = (D.faulted, 9, none) := by unfold DSt.readQ; rw [hq]
    rw [hx]
    refine (act_fault d D R F E _ _ _ _ Y h he hq).mono ?_
    rintro e w2 ⟨rfl, hd2, hk2⟩
    exact ⟨_, rfl, .inr ⟨8, by decide, rfl, rfl⟩, ⟨F, R, hd2, hk2.mono (fun b _ e => .inl (by rw [show b = d from e]; exact h.fd)), fun b hb => .inl hb⟩, _, (co.keep hk2 nod).at_ 0, .inl ⟨rfl, rfl⟩⟩
  | cut n =>
    have hx : D.readQ bs = (D.numbered.cutOff, 10, none) := by unfold DSt.readQ; rw [hq]
    rw [hx]
    refine (act_cut d D R F E true n 282 283 _ #[] D.numbered Y h he hq (fun w => readp_enters n w) (fun w1 h1 k1 => (readp_do n w1).mono fun e w2 ⟨he2, hw2⟩ => ⟨he2, F, R, by rw [hw2]; exact h1, by rw [hw2]; exact ⟨Keep.refl _ _, fun b hb => .inl hb⟩⟩)).mono ?_
    rintro e w2 ⟨rfl, F2, R2, hd2, hs2⟩
    exact ⟨_, rfl, .inr ⟨0, by decide, rfl, rfl⟩, ⟨F2, R2, hd2, hs2.keep.mono (fun b _ e => .inl e), hs2.grow⟩, _, (co.keep hs2.keep no).at_ 0, .inl ⟨rfl, rfl⟩⟩
set_option maxRecDepth 100000 in
set_option maxHeartbeats 2000000 in
theorem dread_go (d : Nat) (D : DSt) (R : DRep) (F : Nat → Prop) (E : Nat → Addr) (s : ByteArray) (k j : Nat) (f : AFile) (bs : List Int) (w : World) (h : DiskAt w F d D R) (he : Env w F E)
    (hp : D.perr s = none) (hf : fpos s D.files = some (j, f)) (hq : f.done = true) (hk : f.blocks[k]? = some bs) :
    Calls Tryz.prog 251 #[.pointer (some ⟨d, 0, none⟩), .string s, .int .i64 k] w (ReadPost d F w (D.read s k)) := by
  obtain ⟨W, hW⟩ : ∃ W, W = (w.alloc (.cells #[.pointer (some ⟨d, 0, none⟩)] 31)).alloc (.cells #[.int .i64 k] 3) := ⟨_, rfl⟩
  have kW : Keep Nil w W := by rw [hW]; exact ((Keep.refl Nil w).alloc _).alloc _
  have hdW := h.nil kW
  have heW := he.nil kW
  have KW := Hid.intro_ kW
  have hkl := (List.getElem?_eq_some_iff.1 hk).1
  have HX := Hid.intro_ (show D.read s k = D.readQ bs by
    unfold DSt.read; rw [hp]; simp only [hf]; rw [if_neg (by simp [hq]), if_neg (by omega), Int.toNat_natCast, hk]; rfl)
  obtain ⟨ho, hn, _⟩ := perr_on hp
  obtain ⟨r, hr, hi⟩ := fpos_reps h hf
  have hfi := (hdW.file _ _ r hi hr)
  have c0 := hfi.blk.at_ 0
  have c1 := hfi.blk.at_ 1
  obtain ⟨a, cp, hv, _⟩ := hfi.len
  have HPO := Hid.intro_ (powered_ok d D R F s j f r W hdW ho hn hf hr)
  have lr := hfi.blk.lt
  have HEW := Hid.intro_ heW
  have HDW := Hid.intro_ hdW
  have HI := Hid.intro_ hi
  have HR := Hid.intro_ hr
  have HK := Hid.intro_ hk
  simp only [List.getElem?_toArray, List.getElem?_cons_zero, List.getElem?_cons_succ] at c0 c1
  rw [hv] at c1
  have c0' : W.cell? ⟨r.1, 0, none⟩ = some (.int .i64 1) := by rw [c0, hq]; rfl
  have bd : Blk W w.heap.size 31 #[.pointer (some ⟨d, 0, none⟩)] := by rw [hW]; exact (Blk.new w _ _).alloc _
  have bi : Blk W (w.heap.size + 1) 3 #[.int .i64 k] := by rw [hW]; exact Blk.new_at _ _ _ (by simp)
  have ci : W.cell? ⟨w.heap.size + 1, 0, none⟩ = some (.int .i64 k) := bi.at_ 0
  have cd : W.cell? ⟨w.heap.size, 0, none⟩ = some (.pointer (some ⟨d, 0, none⟩)) := bd.at_ 0
  have lc := bi.lt
  have hWs : W.heap.size = w.heap.size + 2 := by rw [hW]; simp
  have hWS := Hid.intro_ hWs
  have ldw := h.blk.lt
  have hFlt := Hid.intro_ h.lt
  have hk0 : 0 ≤ (k : Int) := by omega
  have hk1 : (k : Int) < (f.blocks.length : Int) := by omega
  have hmf : ∀ (fn : Fn) (first cap : Array Value) (w : World), (Instr.makeFunc fn first cap).run Tryz.prog w = .ok (.func fn first cap) w := fun _ _ _ _ => rfl
  clear hp ho hn hf hr hi hq hfi c0 kW hdW heW hv hk bd bi hWs
  go_enter Tryz.func251, Tryz.ntmps251
  go_wp2_with fail
  rw [← hW]
  refine HPO.out.mono ?_
  rintro e w1 ⟨rfl, hw1⟩
  obtain rfl := hw1.symm
  clear hW
  go_wp2_with fail
  go_quiet (fail)
  obtain ⟨V, hV⟩ : ∃ V, V = (W.alloc (.cells #[.pointer (some ⟨r.1, 0, none⟩)] 158)).drewN nq := ⟨_, rfl⟩
  have kV : Keep Nil W V := by rw [hV]; exact ((Keep.refl Nil W).alloc _).drewN _
  have bV : Blk V W.heap.size 158 #[.pointer (some ⟨r.1, 0, none⟩)] := by rw [hV]; exact (Blk.new W _ _).drewN _
  have hVs : V.heap.size = W.heap.size + 1 := by rw [hV]; simp
  have HVS := Hid.intro_ hVs
  obtain ⟨Y, hY⟩ : ∃ Y, Y = V.alloc (.cells #[.slice none 0 0] 161) := ⟨_, rfl⟩
  have kY0 : Keep Nil V Y := by rw [hY]; exact (Keep.refl Nil V).alloc _
  have bo : Blk Y V.heap.size 161 #[.slice none 0 0] := by rw [hY]; exact Blk.new V _ _
  have kY := kV.then_ kY0
  have cdY := cell_keep cd kY (fun h => h)
  have ciY := cell_keep ci kY (fun h => h)
  have cfY : Y.cell? ⟨W.heap.size, 0, none⟩ = some (.pointer (some ⟨r.1, 0, none⟩)) := (bV.keep kY0 (fun h => h)).at_ 0
  have cdV := cell_keep cd kV (fun h => h)
  have hdY := HDW.out.nil kY
  have heY := HEW.out.nil kY
  have noF : ¬ F V.heap.size := fun hf => by have h1 := hFlt.out _ hf; have h2 := hWS.out; omega
  have ndY : V.heap.size ≠ d := fun e => by have h2 := hWS.out; omega
  rw [← hV]
  have lV : w.heap.size < V.heap.size := by have h2 := hWS.out; omega
  have HACT := Hid.intro_ (act_read d W.heap.size (w.heap.size + 1) V.heap.size w.heap.size j k D R F E s f r bs Y hdY heY HI.out HR.out HK.out cfY ciY bo cdY noF (by omega) (by have h2 := hWS.out; omega) (by omega) (by have h2 := hWS.out; omega) (by omega) (by omega))
  have HKY := Hid.intro_ (KW.out.then_ kY)
  have HEY := Hid.intro_ heY
  have HVY := Hid.intro_ (show w.heap.size ≤ V.heap.size from Nat.le_of_lt lV)
  clear kY kV bV bo kY0 ciY cfY hdY heY cdY hVs hV
  go_wp2_with fail
  rw [← hY]
  refine HACT.out.mono ?_
  rintro e w2 ⟨v, rfl, hv, ⟨F2, R2, hd2, hk2, hg2⟩, u, hu, hb⟩
  have HB := Hid.intro_ hb
  have HD2 := Hid.intro_ hd2
  have HK2 := Hid.intro_ hk2
  have HG2 := Hid.intro_ hg2
  have hkw : Keep F w w2 := (HKY.out.mono (fun _ _ h => h.elim)).trans hk2 (fun b hb e => e.elim id (fun e => absurd hb (by rw [e]; have := HVY.out; omega)))
  have HKW := Hid.intro_ hkw
  have HE2 := Hid.intro_ (he.errs.keep hkw he.nv he.nb)
  clear hb hd2 hk2 hg2 hY hkw
  go_wp2_with fail
  go_region_held3 (fun w' => w'.cell? ⟨V.heap.size, 0, none⟩ = some u)
    (first | exact hu | exact cell_keep (w := w2.drew) hu hk3 (fun h => h))
    ((go_at_call 186; refine (told_v E v _ _ hv (HE2.out.keep ((Keep.refl Nil w2).drew) (fun _ _ h => h) (fun _ _ h => h))).mono ?_
      rintro e w3 ⟨rfl, hk3⟩))
  all_goals
    go_wp2_with fail
    go_ret2
    rw [HX.out]
    have k3 := (Keep.refl Nil w2).drew.then_ hk3
    refine ⟨u, rfl, DiskTo.nil (w' := w2) ⟨F2, R2, HD2.out, HKW.out, fun b hb => (HG2.out b hb).imp id (fun h => Nat.le_trans HKY.out.size h)⟩ k3, ?_⟩
    rcases HB.out with ⟨h1, h2⟩ | ⟨bs', h1, h2⟩
    · exact .inl ⟨h1, h2⟩
    · exact .inr ⟨bs', h1, (h2.keep k3 (fun _ _ _ h => h)).mono (fun b hb _ => Nat.le_trans HKY.out.size hb)⟩
theorem dread_any (d : Nat) (D : DSt) (R : DRep) (F : Nat → Prop) (E : Nat → Addr) (s : ByteArray) (i : Int) (w : World) (h : DiskAt w F d D R) (he : Env w F E) :
    Calls Tryz.prog 251 #[.pointer (some ⟨d, 0, none⟩), .string s, .int .i64 i] w (ReadPost d F w (D.read s i)) := by
  rcases hp : D.perr s with _ | k
  · obtain ⟨ho, hn, j, f, hf⟩ := perr_on hp
    by_cases hq : f.done = true
    · by_cases h0 : i < 0
      · exact dread_bad d D R F E s i w h he (.inr ⟨hp, j, f, hf, .inr ⟨hq, .inl h0⟩⟩)
      · by_cases h1 : (f.blocks.length : Int) ≤ i
        · exact dread_bad d D R F E s i w h he (.inr ⟨hp, j, f, hf, .inr ⟨hq, .inr ⟨by omega, h1⟩⟩⟩)
        · obtain ⟨k, rfl⟩ := Int.eq_ofNat_of_zero_le (by omega : 0 ≤ i)
          exact dread_go d D R F E s k j f _ w h he hp hf hq (List.getElem?_eq_getElem (by omega))
    · exact dread_bad d D R F E s i w h he (.inr ⟨hp, j, f, hf, .inl (by simpa using hq)⟩)
  · exact dread_bad d D R F E s i w h he (.inl ⟨k, hp⟩)
end Go.Proofs.YtadipinnbehhhaaGreatDoor
namespace Go.Proofs.YtadipinnbehhhaaGreatDoor
open Go.RowKit

def toB (bs : List Int) : List UInt8 := bs.map fun x => UInt8.ofNat x.toNat
theorem toB_len (bs : List Int) : (toB bs).length = bs.length := by simp [toB]
theorem conv_str (w : World) (a : Addr) (cap : Nat) (bs : List Int) (hr : Rd w (some a) (by8 bs)) (h8 : ∀ x ∈ bs, 0 ≤ x ∧ x ≤ 255) : (convert 161 9 (.slice (some a) bs.length cap)).run Tryz.prog w = .ok (.string ⟨(toB bs).toArray⟩) w := by
  have := run_convert_bytes_back (P := Tryz.prog) w 161 9 5 a cap (toB bs) Tryz.underlying161 Tryz.underlying5 Tryz.underlying9 (fun j hj => by
    rw [toB_len] at hj
    have hb : bs[j]? = some bs[j] := List.getElem?_eq_getElem hj
    obtain ⟨ad, e, hc⟩ := hr j (.int .u8 bs[j]) (by unfold by8; rw [List.getElem?_map, hb]; rfl)
    injection e with e
    subst e
    rw [hc]
    have := h8 bs[j] (List.getElem_mem hj)
    congr 2
    simp only [toB, List.getElem_map, UInt8.toNat_ofNat']
    omega)
  rw [toB_len] at this
  exact this
theorem FlAt.get {w : World} {H : Nat → Prop} {A : Option Addr} {n c k : Nat} {fs : List (ByteArray × AFile)} {f : ByteArray × AFile} (h : FlAt w H (.slice A n c) fs) (hk : fs[k]? = some f) :
    ∃ g o Ar cr, A = some ⟨g, o, none⟩ ∧ w.cell? ⟨g, o + k * 3, none⟩ = some (.string f.1) ∧ w.cell? ⟨g, o + k * 3 + 1, none⟩ = some (.bool f.2.done) ∧ w.cell? ⟨g, o + k * 3 + 2, none⟩ = some (.slice Ar f.2.blocks.length cr) ∧ FsAt w H (.slice Ar f.2.blocks.length cr) f.2.blocks := by
  obtain ⟨A', c', rs, e0, hrl, hrr, hri, hrt, hre⟩ := h.out
  injection e0 with e1 e2 e3
  subst e1
  obtain ⟨r, hr⟩ : ∃ r, rs[k]? = some r := ⟨_, List.getElem?_eq_getElem (by rw [hrl]; exact (List.getElem?_eq_some_iff.1 hk).1)⟩
  obtain ⟨a0, a1, a2⟩ := fileCells_at fs rs k f r hk hr
  have hfs := hre k r f hr hk
  obtain ⟨⟨g, o, sp⟩, rfl, p0⟩ := hrr _ _ a0
  obtain rfl : sp = none := (hri _ rfl).3
  obtain ⟨_, e, p1⟩ := hrr _ _ a1
  injection e with e; subst e
  obtain ⟨_, e, p2⟩ := hrr _ _ a2
  injection e with e; subst e
  rw [add_at] at p0 p1 p2
  rw [← Nat.add_assoc] at p1 p2
  obtain ⟨Ar, cr, _, rfl, _⟩ := hfs.out
  exact ⟨g, o, Ar, cr, rfl, p0, p1, p2, hfs⟩
theorem FlAt.form {w : World} {H : Nat → Prop} {v : Value} {fs : List (ByteArray × AFile)} (h : FlAt w H v fs) : ∃ A c, v = .slice A fs.length c := by
  obtain ⟨A, c, rs, e, _⟩ := h.out
  exact ⟨A, c, e⟩
def Bytes (fs : List (ByteArray × AFile)) : Prop := ∀ f ∈ fs, ∀ b ∈ f.2.blocks, ∀ x ∈ b, 0 ≤ x ∧ x ≤ 255
end Go.Proofs.YtadipinnbehhhaaGreatDoor
namespace Go.Proofs.YtadipinnbehhhaaGreatDoor
open Go.RowKit

end Go.Proofs.YtadipinnbehhhaaGreatDoor
namespace Go.Proofs.YtadipinnbehhhaaGreatDoor
open Go.RowKit

end Go.Proofs.YtadipinnbehhhaaGreatDoor
namespace Go.Proofs.YtadipinnbehhhaaGreatDoor
open Go.RowKit

def nblk (F n : Nat) : Nat := (n + F - 1) / F
def chunk (F k : Nat) (l : List R4) : List R4 := (l.drop (k * F)).take F
def blocksB (kind : Nat) (l : List R4) (block : Nat) : List (List Int) := (List.range (nblk (block / 32 - 1) l.length)).map fun k => encB kind k (chunk (block / 32 - 1) k l) block
theorem nblk_lt {F n k : Nat} (hF : 0 < F) : k < nblk F n ↔ k * F < n := by
  unfold nblk
  rw [Nat.lt_iff_add_one_le, Nat.le_div_iff_mul_le hF, Nat.add_mul]
  omega
theorem chunk_len (F k : Nat) (l : List R4) : (chunk F k l).length = min F (l.length - k * F) := by simp [chunk]
theorem rcCells_app' (a b : List R4) : rcCells (a ++ b) = rcCells a ++ rcCells b := by simp [rcCells]
theorem rcCells_len' : ∀ l : List R4, (rcCells l).length = l.length * 4
  | [] => rfl
  | r :: l => by
    have e : rcCells (r :: l) = (r.ws.map fun (x : Nat) => Value.int .u64 x) ++ rcCells l := rfl
    rw [e, List.length_append, rcCells_len' l]
    simp [R4.ws]; omega
theorem chunk_cells (F k : Nat) (l : List R4) (j : Nat) (u : Value) (hk : k * F ≤ l.length) (h : (rcCells (chunk F k l))[j]? = some u) : (rcCells l)[k * F * 4 + j]? = some u := by
  have e : l = l.take (k * F) ++ (chunk F k l ++ (l.drop (k * F)).drop F) := by unfold chunk; rw [List.take_append_drop, List.take_append_drop]
  have hl : (rcCells (l.take (k * F))).length = k * F * 4 := by rw [rcCells_len', List.length_take, Nat.min_eq_left hk]
  rw [e, rcCells_app', List.getElem?_append_right (by rw [hl]; omega), hl, Nat.add_sub_cancel_left, rcCells_app', List.getElem?_append_left (List.getElem?_eq_some_iff.1 h).1]
  exact h
def BlocksPost (w : World) (f : List (List Int)) (e : Ending) (w' : World) : Prop :=
  ∃ v, e = .returned v ∧ FsAt w' (fun b => w.heap.size ≤ b) v f ∧ Keep Nil w w'
theorem OFs.step {w wr w2 w3 : World} {v v' u : Value} {f : List (List Int)} {bs : List Int} {vs : List Value} (hv : ∀ (j : Nat) (u : Value) (bs : List Int), vs[j]? = some u → f[j]? = some bs → BsAt wr (fun b => w.heap.size ≤ b) u bs)
    (ho : wr.ownsRow w.heap.size 161 1 v f.length vs) (kk : Keep Nil wr w2) (hb : BsAt w2 (fun b => w.heap.size ≤ b) u bs) (ho3 : w3.ownsRow w.heap.size 161 1 v' (f.length + 1) (vs ++ [u])) (k3 : Keep (fun b => v.ownBlock = some b) w2 w3) :
    OFs w3 w.heap.size (fun b => w.heap.size ≤ b) v' (f ++ [bs]) := by
  refine OFs.push (w1 := w2) (vs := vs) (v := v) (fun j u bs hu hb => (hv j u bs hu hb).nil kk) (by simpa using ho.1) hb ho3 k3 (fun x hx cs fr hc => ?_)
  obtain ⟨cur, hc2⟩ := own_blk ho hx
  have h1 := hc2.keep kk (fun h => h)
  unfold Blk at h1
  rw [hc] at h1
  injection h1 with h1
  injection h1 with _ h1
  exact absurd h1 (by decide)
set_option maxRecDepth 100000 in
set_option maxHeartbeats 2000000 in
theorem blocks_any (kind block : Nat) (A : Option Addr) (lc : Nat) (l : List R4) (w : World) (hk : 1 ≤ kind ∧ kind ≤ 255) (hb : 64 ≤ block ∧ block ≤ 65536 ∧ block % 32 = 0) (hl : l.length ≤ lc ∧ l.length ≤ 1099511627776)
    (hc : Rd w A (rcCells l)) (hA : ∀ a, A = some a → a.spot = none) (hr : ∀ r ∈ l, r.Ok) :
    Calls Tryz.prog 76 #[.int .i64 kind, .slice A l.length lc, .int .i64 block] w (BlocksPost w (blocksB kind l block)) := by
  have HC := Hid.intro_ hc
  have HR := Hid.intro_ hr
  have HA := Hid.intro_ hA
  have HB := Hid.intro_ hb
  obtain ⟨F, hF⟩ : ∃ F, F = block / 32 - 1 := ⟨_, rfl⟩
  have hF1 : 1 ≤ F ∧ F ≤ 2047 := by omega
  have hfit : fit block = (F : Int) := by
    unfold fit
    rw [if_neg (by omega)]; omega
  have hft := fun w => rfit_any block w
  rw [hfit] at hft
  have hbl : Hid (blocksB kind l block = (List.range (nblk F l.length)).map fun k => encB kind k (chunk F k l) block) := by unfold blocksB; rw [← hF]; exact Hid.intro_ rfl
  have HF := Hid.intro_ hF
  have hFi : (0 : Int) < (F : Int) := by omega
  clear hc hr hA hfit hF hb
  go_enter Tryz.func76, Tryz.ntmps76
  go_wp2_with (go_at_call 10; refine (hft _).mono ?_; rintro e w2 ⟨rfl, hw2⟩; obtain rfl := hw2.symm)
  go_loopw [8, 9] (fun q j wr => ∃ (k : Nat) (v : Value), k ≤ nblk F l.length ∧ v = q ∧ j = .int .i64 ((k * F : Nat) : Int) ∧ Hid (OFs wr w.heap.size (fun b => w.heap.size ≤ b) v ((blocksB kind l block).take k)) ∧ Keep Nil w wr) (fun _ j _ => l.length + F - (intOf j).toNat)
  case atStart => exact ⟨0, _, Nat.zero_le _, rfl, by simp, OFs.nil_ _ _ _, Keep.refl _ _⟩
  case round =>
    obtain ⟨k, v, hk2, rfl, rfl, HO, kwr⟩ := hrel
    by_cases hlt : k < nblk F l.length
    · have hlt2 := (nblk_lt hF1.1).1 hlt
      obtain ⟨K, hK⟩ : ∃ K, K = k * F := ⟨_, rfl⟩
      rw [← hK] at hlt2 ⊢
      have HK := Hid.intro_ hK
      obtain ⟨⟨g, o, sp⟩, rfl⟩ : ∃ a, A = some a := by
        cases A with
        | some a => exact ⟨a, rfl⟩
        | none =>
          obtain ⟨_, e, _⟩ := HC.out 0 ((rcCells l)[0]'(by rw [rcCells_len]; omega)) (List.getElem?_eq_getElem _)
          cases e
      obtain rfl : sp = none := HA.out _ rfl
      have hkK : k ≤ K := by rw [hK]; exact Nat.le_mul_of_pos_right _ hF1.1
      have hcl : (chunk F k l).length = min F (l.length - K) := by rw [chunk_len, ← hK]
      obtain ⟨n, hn⟩ : ∃ n, n = (chunk F k l).length := ⟨_, rfl⟩
      have hn1 : 1 ≤ n ∧ 32 * n + 32 ≤ block := by have := HB.out; have := HF.out; omega
      have hKn : K + n ≤ l.length := by omega
      have hcall : ∀ (wx : World) (lc' : Nat), Keep Nil wr wx → Calls Tryz.prog 152 #[.int .i64 kind, .int .i64 k, .slice (some ⟨g, o + K * 4, none⟩) n lc', .int .i64 block] wx fun e w' =>
          ∃ s, e = .returned (.tuple #[s, .int .i64 0]) ∧ w'.ownsRow wx.heap.size 5 1 s block (by8 (encB kind k (chunk F k l) block)) ∧ Keep Nil wx w' := fun wx lc' hwx => by
        rw [hn]
        refine rencode_good kind k block g (o + K * 4) lc' (chunk F k l) wx hk (by omega) HB.out (by omega) (by omega) (fun j u hu => ?_) (fun r hr => HR.out r (List.mem_of_mem_drop (List.mem_of_mem_take hr)))
        obtain ⟨ad, e, hcc⟩ := HC.out _ _ (chunk_cells F k l j u (by omega) hu)
        injection e with e
        subst e
        rw [add_at, ← hK, ← Nat.add_assoc] at hcc
        exact cell_keep hcc (kwr.then_ hwx) (fun h => h)
      have HCALL := Hid.intro_ hcall
      have hmn : Hid ((min ((K : Int) + (F : Int)) (l.length : Int)).toNat - K = n) := Hid.intro_ (by omega)
      obtain ⟨vs0, ho0, hv0⟩ := HO.out.out
      have hlk : ((blocksB kind l block).take k).length = k := by rw [List.length_take, hbl.out]; simp; omega
      rw [hlk] at ho0
      obtain ⟨Av, cv, rfl⟩ := own_form ho0
      have HV0 := Hid.intro_ hv0
      have HOO := Hid.intro_ ho0
      have HLK := Hid.intro_ hlk
      have HNN := Hid.intro_ hn
      clear hK hcall hv0 ho0 hlk hcl hn
      obtain ⟨i1, hi1, hy0, hy1, hy2⟩ := info_parts info_bytes
      have hk40 : k ≤ 1099511627776 := by omega
      have lw := kwr.size
      go_wp2_with (first
        | (go_at_call 152; rw [hmn.out]; refine (HCALL.out _ _ (Keep.refl _ _)).mono ?_; rintro e w2 ⟨s, rfl, hs2, k2⟩
           obtain ⟨As, cs, rfl⟩ := own_form hs2
           have lw2 := k2.size)
        | (at_builtin; go_loud (refine wpList_append_own_at _ rfl (.tmp 42) (.tmp 44) 53 rfl w.heap.size 161 i1 (.slice none 0 0) 1 24 Tryz.underlying53 hi1 hy0 hy1 hy2 rfl (by decide) (.slice Av k cv) k vs0 (by simp [Act.eval]) (own_keep HOO.out (k2.alloc _) (fun g _ h => h)) ⟨w2.heap.size, 0, none⟩ 1 1 [.slice As block cs] (by simp [Act.eval]) rfl (one_new _ _ _) (by simp [Value.oneCell']) (by unfold maxLen; omega) (by omega) (by simp at *; omega) ?_; intro v3 w3 ho3 k3 _ hv3)))
      have hfin : Hid (OFs w3 w.heap.size (fun b => w.heap.size ≤ b) v3 ((blocksB kind l block).take (k + 1))) := by
        have htk : (blocksB kind l block).take (k + 1) = (blocksB kind l block).take k ++ [encB kind k (chunk F k l) block] := by
          rw [List.take_add_one, hbl.out]
          congr 1
          rw [List.getElem?_map, List.getElem?_range hlt]
          rfl
        rw [htk]
        have hbs : BsAt w2 (fun b => w.heap.size ≤ b) (.slice As block cs) (encB kind k (chunk F k l) block) := BsAt.of_own hs2 (encB_len (by rw [← HNN.out]; exact hn1.2)) (fun g hg => by have := own_base hs2 hg; omega)
        exact OFs.step HV0.out (by rw [HLK.out]; exact HOO.out) (k2.alloc _) (hbs.nil ((Keep.refl Nil w2).alloc _)) (by rw [HLK.out]; exact ho3) (Keep.of_grown k3)
      have kfin : Hid (Keep Nil w w3) := by
        have := (kwr.then_ k2).alloc (.cells #[.slice As block cs] 161)
        exact this.trans (Keep.of_grown k3) (fun b hb e => by have := own_base HOO.out e; omega)
      have hnx : Hid (((k + 1) * F : Nat) = K + F) := by rw [Nat.add_mul, ← HK.out, Nat.one_mul]; exact Hid.intro_ rfl
      go_wp2
      go_roundw
      case rel => exact ⟨k + 1, _, by omega, rfl, by rw [hnx.out]; go_num, hfin, kfin.out⟩
      case measure => simp [intOf]; omega
    · obtain rfl : k = nblk F l.length := by omega
      have hge : ¬ (nblk F l.length * F < l.length) := fun h => by have := (nblk_lt hF1.1).2 h; omega
      obtain ⟨K, hK⟩ : ∃ K, K = nblk F l.length * F := ⟨_, rfl⟩
      rw [← hK] at hge ⊢
      have hfin : Hid (FsAt wr (fun b => w.heap.size ≤ b) v (blocksB kind l block)) := by
        have h := HO.out
        rw [show (blocksB kind l block).take (nblk F l.length) = blocksB kind l block by rw [List.take_of_length_le]; rw [hbl.out]; simp] at h
        exact h.fs (fun g hg => by obtain ⟨_, ho, _⟩ := h.out; exact own_base ho hg)
      clear hK
      go_wp2
      go_ret
      exact ⟨_, rfl, hfin.out, kwr⟩
set_option maxRecDepth 100000 in
set_option maxHeartbeats 2000000 in
theorem tape_any (s : ByteArray) (kind block : Nat) (A : Option Addr) (lc : Nat) (l : List R4) (w : World) (hk : 1 ≤ kind ∧ kind ≤ 255) (hb : 64 ≤ block ∧ block ≤ 65536 ∧ block % 32 = 0) (hl : l.length ≤ lc ∧ l.length ≤ 1099511627776)
    (hc : Rd w A (rcCells l)) (hA : ∀ a, A = some a → a.spot = none) (hr : ∀ r ∈ l, r.Ok) :
    Calls Tryz.prog 22 #[.string s, .int .i64 kind, .slice A l.length lc, .int .i64 block] w fun e w' => ∃ v, e = .returned (.agg #[.string s, .bool true, v]) ∧ FsAt w' (fun b => w.heap.size ≤ b) v (blocksB kind l block) ∧ Keep Nil w w' := by
  have HB := Hid.intro_ (blocks_any kind block A lc l (w.alloc (.cells #[.string ⟨#[]⟩, .bool false, .slice none 0 0] 55)) hk hb hl (hc.keep ((Keep.refl Nil w).alloc _) (fun _ _ _ h => h)) hA hr)
  clear hc hA hr
  go_enter Tryz.func22, Tryz.ntmps22
  have b0 := Blk.new w 55 #[.string ⟨#[]⟩, .bool false, .slice none 0 0]
  go_wp2_with (go_at_call 76; refine HB.out.mono ?_; rintro e w2 ⟨v, rfl, hfs, k2⟩
               have b2 := b0.keep k2 (fun h => h)
               have z0 : w2.cell? ⟨w.heap.size, 0, none⟩ = some (.string ⟨#[]⟩) := b2.at_ 0
               have z1 : w2.cell? ⟨w.heap.size, 1, none⟩ = some (.bool false) := b2.at_ 1
               have z2 : w2.cell? ⟨w.heap.size, 2, none⟩ = some (.slice none 0 0) := b2.at_ 2
               have f0 := b2.fr 0
               have f1 := b2.fr 1
               have f2 := b2.fr 2
               obtain ⟨Av, cv, vs, rfl, hfs2⟩ := hfs.out
               have HFS := Hid.intro_ hfs
               clear hfs hfs2)
  refine bodyPost_ret (v := .agg #[.string s, .bool true, .slice Av (blocksB kind l block).length cv]) (by simp [results, Tryz.results22, go_sem, z0, z1, z2]) rfl ?_
  have ks := (((Keep.refl (fun b => b = w.heap.size) w2).setCell (p := ⟨w.heap.size, 0, none⟩) (fun _ => rfl) (.string s)).setCell (p := ⟨w.heap.size, 1, none⟩) (fun _ => rfl) (.bool true)).setCell (p := ⟨w.heap.size, 2, none⟩) (fun _ => rfl) (.slice Av (blocksB kind l block).length cv)
  have hty : ∀ cs t fr, w2.heap[w.heap.size]? = some (.cells cs t fr) → t = 55 := fun cs t fr hc => by
    have hb := b2
    unfold Blk at hb
    rw [hc] at hb
    injection hb with hb
    injection hb with _ hb
  refine ⟨_, rfl, ((HFS.out.mono (fun b hb _ => by simp at hb; omega)).far (g := w.heap.size) ks (fun cs fr hc => absurd (hty cs _ fr hc) (by decide)) (fun cs fr hc => absurd (hty cs _ fr hc) (by decide))), ?_⟩
  exact (((Keep.refl Nil w).alloc _).then_ k2).trans ks (fun b hb e => by have : b = w.heap.size := e; omega)
end Go.Proofs.YtadipinnbehhhaaGreatDoor
namespace Go.Proofs.YtadipinnbehhhaaGreatDoor
open Go.RowKit

theorem rec_at {w : World} {g o : Nat} {l : List R4} (h : Rd w (some ⟨g, o, none⟩) (rcCells l)) {k : Nat} {q : R4} (hk : l[k]? = some q) :
    w.cell? ⟨g, o + k * 4, none⟩ = some (.int .u64 q.a) ∧ w.cell? ⟨g, o + k * 4 + 1, none⟩ = some (.int .u64 q.b) ∧ w.cell? ⟨g, o + k * 4 + 2, none⟩ = some (.int .u64 q.c) ∧ w.cell? ⟨g, o + k * 4 + 3, none⟩ = some (.int .u64 q.d) := by
  have key : ∀ j, j < 4 → w.cell? ⟨g, o + k * 4 + j, none⟩ = some (.int .u64 ((q.ws.getD j 0 : Nat) : Int)) := fun j hj => by
    obtain ⟨ad, e, hc⟩ := h _ _ (rc_at l k j q hk hj)
    injection e with e
    subst e
    rw [add_at, ← Nat.add_assoc] at hc
    exact hc
  exact ⟨key 0 (by omega), key 1 (by omega), key 2 (by omega), key 3 (by omega)⟩
end Go.Proofs.YtadipinnbehhhaaGreatDoor
