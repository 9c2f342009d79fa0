/- A reader's load of a block of another kind; so Peek and Next. -/
import Derived.Test.YtadipinnbehhhaaGreatDoorCubesRowAI
namespace Go.Proofs.YtadipinnbehhhaaGreatDoor
open Go.RowKit

theorem RdrAt.died {c : Cx} {w : World} {b : Nat} {G : Nat → Prop} {s : RSt} {x : RdSt} (h : RdrAt c w b G s x) (n : Int) (hn : kills n = true) : RdrTo c b G s { x with dead := n } w (w.setCell ⟨b, 4, none⟩ (.int .i64 n)) := by
  obtain ⟨G0, v, rfl, hr, hb, nb, hl⟩ := h.out
  have k : Keep (fun y => y = b) w (w.setCell ⟨b, 4, none⟩ (.int .i64 n)) := (Keep.refl (fun y => y = b) w).setCell (p := ⟨b, 4, none⟩) (fun _ => rfl) _
  have hl2 := hl.keep k (fun g hg e => (hl.off g hg).1 (.inr e))
  exact RdrAt.at_own (x' := { x with dead := n }) (v' := v) hr nb hb.lt hl.off (k.mono fun y _ e => .inl e) (hb.set_ 4 _) hl2.form hl2.lt hl.oks (.inr (.inl rfl)) h.kind h.len (.inr hn)
set_option maxRecDepth 100000 in
set_option maxHeartbeats 4000000 in
theorem loadKind_ (c : Cx) (w : World) (b : Nat) (G : Nat → Prop) (s : RSt) (x : RdSt) (k kind : Nat) (hkind : 1 ≤ kind ∧ kind ≤ 255) (hkne : kind ≠ x.kind) (l : List R4) (h : RdrAt c w b G s x) (hz : stSt x.done x.dead = 0) (hx : x.list = []) (hp : x.place = k) (hb : (k : Int) < x.blocks) (hbm : x.blocks ≤ 1099511627776)
    (hread : s.D.read x.name k = (s.D.readsN 1, 0, some (encB kind k l c.block))) (hl1 : 1 ≤ l.length) (hlK : l.length ≤ c.K) :
    Calls Tryz.prog 201 #[.pointer (some ⟨b, 0, none⟩)] w fun e w' => e = .returned (.tuple #[.bool false, .int .i64 32]) ∧ RdrTo c b G { s with D := s.D.readsN 1 } { x with dead := 32 } w w' := by
  obtain ⟨A, cap, hcap, hblk⟩ := h.cells
  have hs := Hid.intro_ (state_any b c.k x.dead x.done w (hblk.at_ 0) (hblk.at_ 4) (hblk.at_ 5))
  rw [hz] at hs
  rw [hx] at hblk
  have c3 : w.cell? ⟨b, 3, none⟩ = some (.slice A 0 cap) := hblk.at_ 3
  have c7 : w.cell? ⟨b, 7, none⟩ = some (.int .i64 x.blocks) := hblk.at_ 7
  have c8 : w.cell? ⟨b, 8, none⟩ = some (.int .i64 k) := by rw [← hp]; exact hblk.at_ 8
  have hk0 : ¬ (k : Int) < 0 := by omega
  have hkb : ¬ x.blocks ≤ (k : Int) := by omega
  have hkd : decide ((k : Int) < 0) = false := by simp
  have HH := Hid.intro_ h
  have HREAD := Hid.intro_ hread
  obtain ⟨hF, f64, f65, f32, hKb⟩ := fit_div (h.via.elim fun _ q => q.1.fitK) (h.via.elim fun _ q => q.1.posK)
  have HKB := Hid.intro_ (show 64 ≤ c.block ∧ c.block ≤ 65536 ∧ c.block % 32 = 0 ∧ 32 * l.length + 32 ≤ c.block by omega)
  have HP := Hid.intro_ hp
  have HZ := Hid.intro_ hz
  have HX := Hid.intro_ hx
  generalize hB : x.blocks = B at *
  have HB := Hid.intro_ hB
  clear h hread hblk hp hz hx hF hB f64 f65 f32 hKb
  go_enter Tryz.func201, Tryz.ntmps201
  go_wp2_with (go_at_call 149; refine hs.out.mono ?_; rintro e w' ⟨rfl, hw⟩; obtain rfl := hw.symm)
  go_quiet (fail)
  obtain ⟨W, kW, hW⟩ : ∃ W, Keep Nil w W ∧ W = w.drewN nq := ⟨_, (Keep.refl Nil w).drewN _, rfl⟩
  rw [← hW]
  have hR := HH.out.nil kW
  obtain ⟨A1, cap1, _, hblk1⟩ := hR.cells
  rw [HX.out] at hblk1
  obtain ⟨G0, hr, _, hvia⟩ := (hR.nil ((Keep.refl Nil W).drew)).via
  have a0 : W.cell? ⟨b, 0, none⟩ = some (.pointer (some ⟨c.k, 0, none⟩)) := hblk1.at_ 0
  have a1 : W.cell? ⟨b, 1, none⟩ = some (.string x.name) := hblk1.at_ 1
  have a8 : W.cell? ⟨b, 8, none⟩ = some (.int .i64 k) := by rw [← HP.out]; exact hblk1.at_ 8
  have d0 : W.cell? ⟨c.k, 0, none⟩ = some (.pointer (some ⟨c.d, 0, none⟩)) := hr.desk.at_ 0
  have hrd := dread_rm c _ G0 s x.name k hr
  rw [HREAD.out] at hrd
  have HRD := Hid.intro_ hrd
  have KW := Hid.intro_ kW
  clear c3 c7 c8 hrd hblk1 hR kW hW hs
  go_wp2_with fail
  go_region_held3 (fun w' => w'.cell? ⟨b, 0, none⟩ = some (.pointer (some ⟨c.k, 0, none⟩)) ∧ w'.cell? ⟨b, 1, none⟩ = some (.string x.name) ∧ w'.cell? ⟨b, 8, none⟩ = some (.int .i64 k) ∧ w'.cell? ⟨c.k, 0, none⟩ = some (.pointer (some ⟨c.d, 0, none⟩)))
    (first | exact ⟨a0, a1, a8, d0⟩ | exact hS2.out | go_keep)
    (first
      | (go_at_call 251; refine HRD.out.mono ?_; rintro e w2 ⟨u, rfl, ht, hu⟩
         obtain ⟨bs, hbs, hbsat⟩ := hu.resolve_left (fun h => by cases h.1)
         injection hbs with hbs
         subst hbs
         have hel : (encB kind k l c.block).length = c.block := encB_len HKB.out.2.2.2
         obtain ⟨g, o, capb, rfl, hcb, hrd⟩ := hbsat.some_ (by rw [hel]; have := HKB.out; omega)
         rw [hel] at hcb ⊢
         obtain ⟨G2, h2, s2⟩ := hvia _ _ ht
         obtain ⟨A2, cap2, _, hblk2⟩ := h2.cells
         obtain ⟨_, hr2, _, _⟩ := h2.via
         have hS2 := Hid.intro_ (And.intro (show w2.cell? ⟨b, 0, none⟩ = some (.pointer (some ⟨c.k, 0, none⟩)) from hblk2.at_ 0) (And.intro (show w2.cell? ⟨b, 1, none⟩ = some (.string x.name) from hblk2.at_ 1) (And.intro (show w2.cell? ⟨b, 8, none⟩ = some (.int .i64 k) by rw [← HP.out]; exact hblk2.at_ 8) (show w2.cell? ⟨c.k, 0, none⟩ = some (.pointer (some ⟨c.d, 0, none⟩)) from hr2.desk.at_ 0))))))
  rw [HX.out] at hblk2
  have b0 : w2.cell? ⟨b, 0, none⟩ = some (.pointer (some ⟨c.k, 0, none⟩)) := hblk2.at_ 0
  have b2 : w2.cell? ⟨b, 2, none⟩ = some (.int .i64 x.kind) := hblk2.at_ 2
  have b8 : w2.cell? ⟨b, 8, none⟩ = some (.int .i64 k) := by rw [← HP.out]; exact hblk2.at_ 8
  have hdc := pdecode_kind kind x.kind k c.block g o capb l w2.drew hkind h2.kind hkne (by omega) ⟨HKB.out.1, HKB.out.2.1, HKB.out.2.2.1⟩ hl1 HKB.out.2.2.2 hcb (hrd.keep (Keep.refl Nil w2).drew (fun _ _ _ h => h)) (h2.env.halves.keep (Keep.refl Nil w2).drew (fun h => h)) (h2.env.magic.keep (Keep.refl Nil w2).drew (fun h => h))
  have HDC := Hid.intro_ hdc
  have H2 := Hid.intro_ h2
  have S2 := Hid.intro_ s2
  clear hdc hrd hbsat ht hu h2 s2 hblk2 hvia hr hr2 hS2 a0 a1 a8 d0 HRD hel
  go_wp2_with fail
  go_region_held3 (fun w' => w'.cell? ⟨b, 0, none⟩ = some (.pointer (some ⟨c.k, 0, none⟩)) ∧ w'.cell? ⟨b, 2, none⟩ = some (.int .i64 x.kind) ∧ w'.cell? ⟨b, 8, none⟩ = some (.int .i64 k))
    (first | exact ⟨b0, b2, b8⟩ | exact ⟨cell_keep (w := w2.drew) b0 k3 (fun h => h), cell_keep (w := w2.drew) b2 k3 (fun h => h), cell_keep (w := w2.drew) b8 k3 (fun h => h)⟩ | go_keep)
    (first
      | (go_at_call 252; refine HDC.out.mono ?_; rintro e w3 ⟨rfl, k3⟩))
  have k23 : Keep Nil w2 w3 := (Keep.refl Nil w2).drew.then_ k3
  have h3 := H2.out.nil k23
  obtain ⟨A3, cap3', _, hblk3⟩ := h3.cells
  rw [HX.out] at hblk3
  have e0 : w3.cell? ⟨b, 0, none⟩ = some (.pointer (some ⟨c.k, 0, none⟩)) := hblk3.at_ 0
  have H3 := Hid.intro_ h3
  have K3 := Hid.intro_ k23
  have HDIE := Hid.intro_ (fun nq => die_any b 32 _ (w3.drewN nq) ((hblk3.drewN nq).at_ 4) ((hblk3.drewN nq).fr 4))
  have hfin : Hid (∀ nq, RdrTo c b G { s with D := s.D.readsN 1 } { x with dead := 32 } w ((w3.drewN nq).setCell ⟨b, 4, none⟩ (.int .i64 32))) := Hid.intro_ (fun nq => by
    obtain ⟨G5, h5, s5⟩ := (h3.nil ((Keep.refl Nil w3).drewN nq)).died 32 rfl
    exact ⟨G5, h5, (Stp.of_nil KW.out.drew G).trans (S2.out.trans ((Stp.of_nil (k23.drewN nq) _).trans s5))⟩)
  clear h3 k23 hblk3 k3 b0 b2 b8 HDC
  go_wp2_with fail
  go_quiet (fail)
  go_wp2_with (go_at_call 194; refine (HDIE.out _).mono ?_; rintro e w' ⟨rfl, hw⟩; rw [if_pos (by rfl)] at hw; subst hw)
  go_ret2
  have hf9 := hfin.out nq
  rw [HB.out] at hf9
  exact ⟨rfl, hf9⟩
section
variable {c : Cx} {w w' : World} {b : Nat} {G : Nat → Prop} {s s' : RSt} {x x' : RdSt} {fs : List (ByteArray × AFile)} {name : ByteArray} {kind : Nat} {L rem : List R4} {back : Bool} {q : Nat}

theorem next_kind {kind2 : Nat} (h : RdrAt c w b G s x) (t : TapeOn c fs name kind L) (hc : Calm s.D c.block fs) (hne : kind ≠ kind2) (hL : L ≠ []) (hx : x = { name := name, kind := kind2, dead := 0, done := false, back := true, blocks := ((blocksB kind L c.block).length : Int), place := ((blocksB kind L c.block).length : Int) - 1, list := [] }) :
    Calls Tryz.prog 102 #[.pointer (some ⟨b, 0, none⟩)] w fun e w' => e = .returned (.tuple #[zero4, .bool false, .int .i64 32]) ∧ RdrTo c b G { s with D := s.D.readsN 1 } { x with dead := 32 } w w' := by
  have ka : Keep Nil w (w.alloc (.cells #[.int .u64 0, .int .u64 0, .int .u64 0, .int .u64 0] 111)) := (Keep.refl Nil w).alloc _
  refine next_none 32 h ?_
  have h1 := h.nil ka
  have ka2 : Keep Nil (w.alloc (.cells #[.int .u64 0, .int .u64 0, .int .u64 0, .int .u64 0] 111)) ((w.alloc (.cells #[.int .u64 0, .int .u64 0, .int .u64 0, .int .u64 0] 111)).alloc (.cells #[.int .u64 0, .int .u64 0, .int .u64 0, .int .u64 0] 111)) := (Keep.refl Nil _).alloc _
  refine peek_none b 32 _ (fun w' => RdrTo c b G { s with D := s.D.readsN 1 } { x with dead := 32 } (w.alloc (.cells #[.int .u64 0, .int .u64 0, .int .u64 0, .int .u64 0] 111)) w') ?_
  obtain ⟨_, hrm, _, _⟩ := h.via
  have hn := hrm.blocks_len kind L
  obtain ⟨hF, _⟩ := fit_div hrm.fitK hrm.posK
  have hpos : 0 < nblk c.K L.length := (nblk_lt hrm.posK).2 (by have := List.length_pos_iff.2 hL; omega)
  have h40 := nblk_le40 hrm.posK t.le
  obtain ⟨k, hk⟩ : ∃ k, k + 1 = nblk c.K L.length := ⟨nblk c.K L.length - 1, by omega⟩
  have hread := t.read hc (k := k) (by omega)
  rw [blocks_at hF (by omega)] at hread
  have hkL := (nblk_lt hrm.posK).1 (show k < nblk c.K L.length by omega)
  have hcl := chunk_len c.K k L
  have hpK := hrm.posK
  have hpl : x.place = k := by rw [hx]; show ((blocksB kind L c.block).length : Int) - 1 = k; omega
  have hbl : x.blocks = ((blocksB kind L c.block).length : Int) := by rw [hx]
  refine (loadKind_ c _ b G s x k kind t.kind (by rw [hx]; exact hne) (chunk c.K k L) (h1.nil ka2) (by rw [hx]; rfl) (by rw [hx]) hpl (by omega) (by omega) (by rw [hx]; exact hread) (by omega) (by omega)).mono fun e w1 ⟨he, t1⟩ => ?_
  exact ⟨he, RdrTo.kept h1 t1, fun w2 k2 => RdrTo.new_cell h1 t1 k2⟩
theorem RmTo.new_cell {w1 w2 : World} (h : RmAt c w G s) {o : Obj} (t : RmTo c G s' (w.alloc o) w1) (k : Keep (fun y => y = w.heap.size) w1 w2) : RmTo c G s' w w2 := by
  obtain ⟨G1, h1, s1⟩ := t
  have off0 : Off c.E G w.heap.size := Off.new h.env h.lt (Nat.le_refl _)
  have off1 := off0.step (w := w.alloc o) (by simp) s1
  have ka : Keep Nil w (w.alloc o) := (Keep.refl Nil w).alloc o
  have s0 := (Stp.of_nil ka G).trans s1
  refine ⟨G1, h1.keep k (fun y hy e => by rw [show y = w.heap.size from e] at hy; exact off1.1 hy) ⟨⟨h1.env.errs.errs, fun i hi hf => (off1.2.1 i hi).1 hf, fun i hi hf => (off1.2.1 i hi).2 hf⟩, h1.env.halves, h1.env.magic, fun hf => off1.2.2.1 hf.symm, fun hf => off1.2.2.2 hf.symm⟩, ?_⟩
  exact ⟨s0.keep.trans k (fun y hy e => by have : y = w.heap.size := e; omega), s0.grow⟩
set_option maxRecDepth 100000 in
set_option maxHeartbeats 2000000 in
theorem last_kind {kind2 : Nat} (h : RmAt c w G s) (t : TapeOn c fs name kind L) (hne : kind ≠ kind2) (hL : L ≠ []) (hc : Calm s.D c.block fs) (hk : 1 ≤ kind2 ∧ kind2 ≤ 5) (hcl : s.S.closed = false) (hh : 0 ≤ s.S.hand) (hf : (c.K : Int) ≤ s.S.limit - (s.S.hand + s.S.parts)) :
    Calls Tryz.prog 78 #[.pointer (some ⟨c.k, 0, none⟩), .string name, .int .i64 kind2] w fun e w' => e = .returned (.tuple #[zero4, .bool false, .int .i64 32]) ∧ WentTo c G 1 0 s w w' := by
  have ka : Keep Nil w (w.alloc (.cells #[.int .u64 0, .int .u64 0, .int .u64 0, .int .u64 0] 111)) := (Keep.refl Nil w).alloc _
  have hread := t.readable hc
  have hbl := h.blocks_len kind L
  have h40 := nblk_le40 h.posK t.le
  have hback := (tback_rm c _ G s name kind2 (h.nil ka) (by rw [hread]; omega) (by rw [hread, hbl]; omega)).mono fun e w1 hp => hp.tape t hc hk hcl hf
  have HB := Hid.intro_ hback
  have HH := Hid.intro_ h
  have HT := Hid.intro_ t
  have HC := Hid.intro_ hc
  have hg1 := Went.take s hcl hf
  have HG1 := Hid.intro_ hg1
  have HHH := Hid.intro_ hh
  have HCL := Hid.intro_ hcl
  have hz := Hid.intro_ (show Off c.E G w.heap.size from Off.new h.env h.lt (Nat.le_refl _))
  clear hback h t hc hg1 hread hbl h40 ka hf hk hh hcl
  go_enter_defers Tryz.func78, Tryz.ntmps78
  go_wp2_with fail
  refine HB.out.mono ?_
  rintro e w1 ⟨b, rfl, hb, G1, h1, s1⟩
  have hsz : w.heap.size < w1.heap.size := by have := s1.keep.size; simp at this; omega
  have OFF1 := Hid.intro_ (hz.out.step (w := w.alloc (.cells #[.int .u64 0, .int .u64 0, .int .u64 0, .int .u64 0] 111)) (by simp) s1)
  have HB1 := Hid.intro_ ((Blk.new w 111 #[.int .u64 0, .int .u64 0, .int .u64 0, .int .u64 0]).keep s1.keep hz.out.1)
  have S1 := Hid.intro_ s1
  have H1 := Hid.intro_ h1
  have hnx := next_kind h1 HT.out HC.out hne hL rfl
  clear h1 s1 hL hb hne
  unfold zero4 at *
  have HNX := Hid.intro_ hnx
  clear hnx
  go_wp2_with fail
  refine HNX.out.mono ?_
  rintro e w2 ⟨rfl, hq⟩
  obtain ⟨G2, h2, s2⟩ := hq
  have HG2 := Hid.intro_ (Went.read { s with S := s.S.take c.K })
  have hj1 : 1 ≤ 1 := by omega
  have H2 := Hid.intro_ h2
  have off2 := OFF1.out.step (by omega) s2
  have hb2 := HB1.out.keep s2.keep OFF1.out.1
  have z0 : w2.cell? ⟨w.heap.size, 0, none⟩ = some (.int .u64 0) := hb2.at_ 0
  have z1 : w2.cell? ⟨w.heap.size, 1, none⟩ = some (.int .u64 0) := hb2.at_ 1
  have z2 : w2.cell? ⟨w.heap.size, 2, none⟩ = some (.int .u64 0) := hb2.at_ 2
  have z3 : w2.cell? ⟨w.heap.size, 3, none⟩ = some (.int .u64 0) := hb2.at_ 3
  have g0 := hb2.fr 0
  have g1 := hb2.fr 1
  have g2 := hb2.fr 2
  have g3 := hb2.fr 3
  have S2 := Hid.intro_ s2
  have OFF2 := Hid.intro_ off2
  have HB2 := Hid.intro_ hb2
  clear h2 s2 off2 hb2
  go_wp2_with fail
  have hb3 := (((HB2.out.set_ 0 (.int .u64 0)).set_ 1 (.int .u64 0)).set_ 2 (.int .u64 0)).set_ 3 (.int .u64 0)
  have kp := ((((Keep.refl (fun y => y = w.heap.size) w2).setCell (p := ⟨w.heap.size, 0, none⟩) (fun _ => rfl) (.int .u64 0)).setCell (p := ⟨w.heap.size, 1, none⟩) (fun _ => rfl) (.int .u64 0)).setCell (p := ⟨w.heap.size, 2, none⟩) (fun _ => rfl) (.int .u64 0)).setCell (p := ⟨w.heap.size, 3, none⟩) (fun _ => rfl) (.int .u64 0)
  generalize (((w2.setCell ⟨w.heap.size, 0, none⟩ (.int .u64 0)).setCell ⟨w.heap.size, 1, none⟩ (.int .u64 0)).setCell ⟨w.heap.size, 2, none⟩ (.int .u64 0)).setCell ⟨w.heap.size, 3, none⟩ (.int .u64 0) = X at *
  have h3 := H2.out.keep kp (fun y e => by rw [show y = w.heap.size from e]; exact OFF2.out)
  refine leaves_cons (f := 93) (args := #[.pointer (some ⟨b, 0, none⟩)]) (by simp) (by simp [go_sem]) ?_
  refine (rclose_d c _ b _ _ _ .returning h3).mono ?_
  rintro e u' w9 ⟨rfl, rfl, G4, h4, s4⟩
  unfold rclose at h4
  rw [if_neg (show ¬ stSt false 32 = 6 by decide)] at h4
  have hb9 := hb3.keep s4.keep OFF2.out.1
  have y0 : w9.cell? ⟨w.heap.size, 0, none⟩ = some (.int .u64 0) := hb9.at_ 0
  have y1 : w9.cell? ⟨w.heap.size, 1, none⟩ = some (.int .u64 0) := hb9.at_ 1
  have y2 : w9.cell? ⟨w.heap.size, 2, none⟩ = some (.int .u64 0) := hb9.at_ 2
  have y3 : w9.cell? ⟨w.heap.size, 3, none⟩ = some (.int .u64 0) := hb9.at_ 3
  refine ⟨.tuple #[.agg #[.int .u64 0, .int .u64 0, .int .u64 0, .int .u64 0], .bool false, .int .i64 32], by simp [results, Tryz.results78, go_sem, y0, y1, y2, y3], rfl, ?_⟩
  exact last_fin HH.out HG1.out HG2.out HCL.out HHH.out hj1 S1.out S2.out kp ⟨G4, h4, s4⟩
set_option maxRecDepth 100000 in
set_option maxHeartbeats 2000000 in
theorem last_bad {kind2 : Nat} (n : Int) (h : RmAt c w G s) (hn : (openR s.D s.S c.K name kind2) = (n, s.S)) (hz : ¬ n = 0) (hn0 : 0 ≤ (s.D.readable name).1) (hn1 : (s.D.readable name).1 ≤ 1099511627776) :
    Calls Tryz.prog 78 #[.pointer (some ⟨c.k, 0, none⟩), .string name, .int .i64 kind2] w fun e w' => e = .returned (.tuple #[zero4, .bool false, .int .i64 n]) ∧ WentTo c G 1 0 s w w' := by
  have ka : Keep Nil w (w.alloc (.cells #[.int .u64 0, .int .u64 0, .int .u64 0, .int .u64 0] 111)) := (Keep.refl Nil w).alloc _
  have hback := (tback_rm c _ G s name kind2 (h.nil ka) hn0 hn1).mono fun e w1 hp => show e = .returned (.tuple #[.pointer none, .int .i64 n]) ∧ RmTo c G s (w.alloc (.cells #[.int .u64 0, .int .u64 0, .int .u64 0, .int .u64 0] 111)) w1 by
    have ho := hp.out
    rw [hn] at ho
    rcases ho with ⟨_, he, ht⟩ | ⟨h0, _⟩
    · exact ⟨he, ht⟩
    · exact absurd h0 hz
  have HB := Hid.intro_ hback
  have HZ := Hid.intro_ hz
  have q : (n != 0) = true := by simpa using hz
  have HOFF := Hid.intro_ (show Off c.E G w.heap.size from Off.new h.env h.lt (Nat.le_refl _))
  have HH := Hid.intro_ h
  unfold zero4
  clear hback hz h hn hn0 hn1 ka
  go_enter_defers Tryz.func78, Tryz.ntmps78
  go_wp2_with fail
  refine HB.out.mono ?_
  rintro e w2 ⟨rfl, G2, h2, s2⟩
  have off2 := HOFF.out.step (w := w.alloc (.cells #[.int .u64 0, .int .u64 0, .int .u64 0, .int .u64 0] 111)) (by simp) s2
  have hb2 := (Blk.new w 111 #[.int .u64 0, .int .u64 0, .int .u64 0, .int .u64 0]).keep s2.keep HOFF.out.1
  have z0 : w2.cell? ⟨w.heap.size, 0, none⟩ = some (.int .u64 0) := hb2.at_ 0
  have z1 : w2.cell? ⟨w.heap.size, 1, none⟩ = some (.int .u64 0) := hb2.at_ 1
  have z2 : w2.cell? ⟨w.heap.size, 2, none⟩ = some (.int .u64 0) := hb2.at_ 2
  have z3 : w2.cell? ⟨w.heap.size, 3, none⟩ = some (.int .u64 0) := hb2.at_ 3
  have g0 := hb2.fr 0
  have g1 := hb2.fr 1
  have g2 := hb2.fr 2
  have g3 := hb2.fr 3
  have H2 := Hid.intro_ h2
  have S2 := Hid.intro_ s2
  have OFF2 := Hid.intro_ off2
  have HB2 := Hid.intro_ hb2
  clear h2 s2 off2 hb2
  go_wp2_with fail
  have hb3 := (((HB2.out.set_ 0 (.int .u64 0)).set_ 1 (.int .u64 0)).set_ 2 (.int .u64 0)).set_ 3 (.int .u64 0)
  have kp := ((((Keep.refl (fun y => y = w.heap.size) w2).setCell (p := ⟨w.heap.size, 0, none⟩) (fun _ => rfl) (.int .u64 0)).setCell (p := ⟨w.heap.size, 1, none⟩) (fun _ => rfl) (.int .u64 0)).setCell (p := ⟨w.heap.size, 2, none⟩) (fun _ => rfl) (.int .u64 0)).setCell (p := ⟨w.heap.size, 3, none⟩) (fun _ => rfl) (.int .u64 0)
  generalize (((w2.setCell ⟨w.heap.size, 0, none⟩ (.int .u64 0)).setCell ⟨w.heap.size, 1, none⟩ (.int .u64 0)).setCell ⟨w.heap.size, 2, none⟩ (.int .u64 0)).setCell ⟨w.heap.size, 3, none⟩ (.int .u64 0) = X at *
  have y0 : X.cell? ⟨w.heap.size, 0, none⟩ = some (.int .u64 0) := hb3.at_ 0
  have y1 : X.cell? ⟨w.heap.size, 1, none⟩ = some (.int .u64 0) := hb3.at_ 1
  have y2 : X.cell? ⟨w.heap.size, 2, none⟩ = some (.int .u64 0) := hb3.at_ 2
  have y3 : X.cell? ⟨w.heap.size, 3, none⟩ = some (.int .u64 0) := hb3.at_ 3
  simp only [bodyPostD, Leaves]
  refine ⟨.tuple #[.agg #[.int .u64 0, .int .u64 0, .int .u64 0, .int .u64 0], .bool false, .int .i64 n], by simp [results, Tryz.results78, go_sem, y0, y1, y2, y3], rfl, ?_⟩
  exact ⟨0, s, by omega, Went.refl s, RmTo.new_cell HH.out ⟨G2, H2.out, S2.out⟩ kp⟩
end
end Go.Proofs.YtadipinnbehhhaaGreatDoor
