/- A reader's load where a block is read that spells records. A reader over a tape: load gives what is left. A reader over a tape: Peek and Next. A reader is closed by a deferred call. The desk's Last and Size of a tape. -/
import Derived.Test.YtadipinnbehhhaaGreatDoorCubesRowAH
import Derived.Test.YtadipinnbehhhaaGreatDoorCubesRowAG
namespace Go.Proofs.YtadipinnbehhhaaGreatDoor
open Go.RowKit

theorem BsAt.some_ {w : World} {H : Nat → Prop} {v : Value} {bs : List Int} (h : BsAt w H v bs) (h1 : 1 ≤ bs.length) : ∃ g o cap, v = .slice (some ⟨g, o, none⟩) bs.length cap ∧ bs.length ≤ cap ∧ Rd w (some ⟨g, o, none⟩) (by8 bs) := by
  obtain ⟨A, cap, e, hc, hr, hi, _⟩ := h.out
  obtain ⟨u, hu⟩ : ∃ u, (by8 bs)[0]? = some u := ⟨_, List.getElem?_eq_getElem (by rw [by8_len]; omega)⟩
  obtain ⟨⟨g, o, sp⟩, e2, _⟩ := hr 0 u hu
  have hs := (hi _ e2).sp
  simp only at hs
  subst hs
  subst e2
  exact ⟨g, o, cap, e, hc, hr⟩
def RdSt.got (x : RdSt) (l : List R4) : RdSt := { x with list := if x.back then l.reverse else l, place := if x.back then x.place - 1 else x.place + 1 }
theorem RdrAt.stored {c : Cx} {w3 w5 : World} {b : Nat} {G : Nat → Prop} {s : RSt} {x x' : RdSt} {g cap : Nat} {l' : List R4} (h : RdrAt c w3 b G s x) (hg : w3.heap.size ≤ g) (k : Keep (fun y => y = b) w3 w5) (hb : Blk w5 b 267 (rdCells c.k x'.name x'.kind (.slice (some ⟨g, 0, none⟩) l'.length cap) x'.dead x'.done x'.back x'.blocks x'.place))
    (hgb : Blk w5 g 111 (rcCells l').toArray) (hc : l'.length ≤ cap) (hx : x'.list = l') (ho : ∀ r ∈ l', r.Ok) (hk : x'.kind = x.kind) (hle : l'.length ≤ c.K) (hd : x'.dead = 0 ∨ kills x'.dead = true) : RdrTo c b G s x' w3 w5 := by
  subst hx
  obtain ⟨G0, v, rfl, hr, hb3, nb, hl⟩ := h.out
  have hg5 := hgb.lt
  refine RdrAt.at_own (v' := .slice (some ⟨g, 0, none⟩) x'.list.length cap) hr nb hb3.lt hl.off (k.mono fun y _ e => .inl e) hb ⟨_, cap, rfl, hc, (fun a e => by injection e with e; subst e; rfl), fun j u hu => ⟨_, rfl, ?_⟩⟩ (fun g' hg' => ?_) ho (.inr (.inr ⟨g, rfl, hg⟩)) (by rw [hk]; exact h.kind) hle hd
  · rw [add_at, Nat.zero_add, hgb.at_ j, List.getElem?_toArray]
    exact hu
  · have e : g = g' := by simpa [Value.ownBlock] using hg'
    rw [← e]; exact hg5
set_option maxRecDepth 100000 in
set_option maxHeartbeats 4000000 in
theorem loadGo_ (c : Cx) (w : World) (b : Nat) (G : Nat → Prop) (s : RSt) (x : RdSt) (k : Nat) (l : List R4) (h : RdrAt c w b G s x) (hz : stSt x.done x.dead = 0) (hx : x.list = []) (hp : x.place = k) (hb : (k : Int) < x.blocks) (hbm : x.blocks ≤ 1099511627776)
    (hread : s.D.read x.name k = (s.D.readsN 1, 0, some (encB x.kind k l c.block))) (hl1 : 1 ≤ l.length) (hlK : l.length ≤ c.K) (hfull : l.length < c.K → (k : Int) + 1 = x.blocks) (ho : ∀ r ∈ l, r.Ok) :
    Calls Tryz.prog 201 #[.pointer (some ⟨b, 0, none⟩)] w fun e w' => e = .returned (.tuple #[.bool true, .int .i64 0]) ∧ RdrTo c b G { s with D := s.D.readsN 1 } (x.got l) w w' := by
  obtain ⟨A, cap, hcap, hblk⟩ := h.cells
  have hs := Hid.intro_ (state_any b c.k x.dead x.done w (hblk.at_ 0) (hblk.at_ 4) (hblk.at_ 5))
  rw [hz] at hs
  rw [hx] at hblk
  have c3 : w.cell? ⟨b, 3, none⟩ = some (.slice A 0 cap) := hblk.at_ 3
  have c7 : w.cell? ⟨b, 7, none⟩ = some (.int .i64 x.blocks) := hblk.at_ 7
  have c8 : w.cell? ⟨b, 8, none⟩ = some (.int .i64 k) := by rw [← hp]; exact hblk.at_ 8
  have hk0 : ¬ (k : Int) < 0 := by omega
  have hkb : ¬ x.blocks ≤ (k : Int) := by omega
  have hkd : decide ((k : Int) < 0) = false := by simp
  have HH := Hid.intro_ h
  have HREAD := Hid.intro_ hread
  obtain ⟨hF, f64, f65, f32, hKb⟩ := fit_div (h.via.elim fun _ q => q.1.fitK) (h.via.elim fun _ q => q.1.posK)
  have HKB := Hid.intro_ (show 64 ≤ c.block ∧ c.block ≤ 65536 ∧ c.block % 32 = 0 ∧ 32 * l.length + 32 ≤ c.block by omega)
  have HO := Hid.intro_ ho
  have HP := Hid.intro_ hp
  have HZ := Hid.intro_ hz
  have HX := Hid.intro_ hx
  generalize hB : x.blocks = B at *
  have HB := Hid.intro_ hB
  clear h hread hblk ho hp hz hx hF hB f64 f65 f32 hKb
  go_enter Tryz.func201, Tryz.ntmps201
  go_wp2_with (go_at_call 149; refine hs.out.mono ?_; rintro e w' ⟨rfl, hw⟩; obtain rfl := hw.symm)
  go_quiet (fail)
  obtain ⟨W, kW, hW⟩ : ∃ W, Keep Nil w W ∧ W = w.drewN nq := ⟨_, (Keep.refl Nil w).drewN _, rfl⟩
  rw [← hW]
  have hR := HH.out.nil kW
  obtain ⟨A1, cap1, _, hblk1⟩ := hR.cells
  rw [HX.out] at hblk1
  obtain ⟨G0, hr, _, hvia⟩ := (hR.nil ((Keep.refl Nil W).drew)).via
  have a0 : W.cell? ⟨b, 0, none⟩ = some (.pointer (some ⟨c.k, 0, none⟩)) := hblk1.at_ 0
  have a1 : W.cell? ⟨b, 1, none⟩ = some (.string x.name) := hblk1.at_ 1
  have a8 : W.cell? ⟨b, 8, none⟩ = some (.int .i64 k) := by rw [← HP.out]; exact hblk1.at_ 8
  have d0 : W.cell? ⟨c.k, 0, none⟩ = some (.pointer (some ⟨c.d, 0, none⟩)) := hr.desk.at_ 0
  have hrd := dread_rm c _ G0 s x.name k hr
  rw [HREAD.out] at hrd
  have HRD := Hid.intro_ hrd
  have KW := Hid.intro_ kW
  clear c3 c7 c8 hrd hblk1 hR kW hW hs
  go_wp2_with fail
  go_region_held3 (fun w' => w'.cell? ⟨b, 0, none⟩ = some (.pointer (some ⟨c.k, 0, none⟩)) ∧ w'.cell? ⟨b, 1, none⟩ = some (.string x.name) ∧ w'.cell? ⟨b, 8, none⟩ = some (.int .i64 k) ∧ w'.cell? ⟨c.k, 0, none⟩ = some (.pointer (some ⟨c.d, 0, none⟩)))
    (first | exact ⟨a0, a1, a8, d0⟩ | exact hS2.out | go_keep)
    (first
      | (go_at_call 251; refine HRD.out.mono ?_; rintro e w2 ⟨u, rfl, ht, hu⟩
         obtain ⟨bs, hbs, hbsat⟩ := hu.resolve_left (fun h => by cases h.1)
         injection hbs with hbs
         subst hbs
         have hel : (encB x.kind k l c.block).length = c.block := encB_len HKB.out.2.2.2
         obtain ⟨g, o, capb, rfl, hcb, hrd⟩ := hbsat.some_ (by rw [hel]; have := HKB.out; omega)
         rw [hel] at hcb ⊢
         obtain ⟨G2, h2, s2⟩ := hvia _ _ ht
         obtain ⟨A2, cap2, _, hblk2⟩ := h2.cells
         obtain ⟨_, hr2, _, _⟩ := h2.via
         have hS2 := Hid.intro_ (And.intro (show w2.cell? ⟨b, 0, none⟩ = some (.pointer (some ⟨c.k, 0, none⟩)) from hblk2.at_ 0) (And.intro (show w2.cell? ⟨b, 1, none⟩ = some (.string x.name) from hblk2.at_ 1) (And.intro (show w2.cell? ⟨b, 8, none⟩ = some (.int .i64 k) by rw [← HP.out]; exact hblk2.at_ 8) (show w2.cell? ⟨c.k, 0, none⟩ = some (.pointer (some ⟨c.d, 0, none⟩)) from hr2.desk.at_ 0))))))
  rw [HX.out] at hblk2
  have b0 : w2.cell? ⟨b, 0, none⟩ = some (.pointer (some ⟨c.k, 0, none⟩)) := hblk2.at_ 0
  have b2 : w2.cell? ⟨b, 2, none⟩ = some (.int .i64 x.kind) := hblk2.at_ 2
  have b8 : w2.cell? ⟨b, 8, none⟩ = some (.int .i64 k) := by rw [← HP.out]; exact hblk2.at_ 8
  have hdc := pdecode_good x.kind k c.block g o capb l w2.drew (h2.kind) (by omega) ⟨HKB.out.1, HKB.out.2.1, HKB.out.2.2.1⟩ hl1 HKB.out.2.2.2 hcb HO.out (hrd.keep (Keep.refl Nil w2).drew (fun _ _ _ h => h)) (h2.env.halves.keep (Keep.refl Nil w2).drew (fun h => h)) (h2.env.magic.keep (Keep.refl Nil w2).drew (fun h => h))
  have HDC := Hid.intro_ hdc
  have H2 := Hid.intro_ h2
  have S2 := Hid.intro_ s2
  clear hdc hrd hbsat ht hu h2 s2 hblk2 hvia hr hr2 hS2 a0 a1 a8 d0 HRD hel
  go_wp2_with fail
  go_region_held3 (fun w' => w'.cell? ⟨b, 0, none⟩ = some (.pointer (some ⟨c.k, 0, none⟩)) ∧ w'.cell? ⟨b, 2, none⟩ = some (.int .i64 x.kind) ∧ w'.cell? ⟨b, 8, none⟩ = some (.int .i64 k))
    (first | exact ⟨b0, b2, b8⟩ | exact ⟨cell_keep (w := w2.drew) b0 k3 (fun h => h), cell_keep (w := w2.drew) b2 k3 (fun h => h), cell_keep (w := w2.drew) b8 k3 (fun h => h)⟩ | go_keep)
    (first
      | (go_at_call 252; refine HDC.out.mono ?_; rintro e w3 ⟨g3, rfl, hgb, hg3, k3⟩))
  have k23 : Keep Nil w2 w3 := (Keep.refl Nil w2).drew.then_ k3
  have h3 := H2.out.nil k23
  obtain ⟨A3, cap3', _, hblk3⟩ := h3.cells
  rw [HX.out] at hblk3
  have e0 : w3.cell? ⟨b, 0, none⟩ = some (.pointer (some ⟨c.k, 0, none⟩)) := hblk3.at_ 0
  have e7 : w3.cell? ⟨b, 7, none⟩ = some (.int .i64 B) := by rw [← HB.out]; exact hblk3.at_ 7
  have e8 : w3.cell? ⟨b, 8, none⟩ = some (.int .i64 k) := by rw [← HP.out]; exact hblk3.at_ 8
  obtain ⟨G3, hr3, _, _⟩ := h3.via
  have e2 : w3.cell? ⟨c.k, 2, none⟩ = some (.int .i64 c.K) := hr3.desk.at_ 2
  have H3 := Hid.intro_ h3
  have K3 := Hid.intro_ k23
  have HGB := Hid.intro_ hgb
  clear h3 k23 hgb hblk3 hr3 k3 b0 b2 b8 HDC
  go_wp2_with fail
  have hB1 : IntKind.i64.wrap (B - 1) = B - 1 := IntWalk.i64_in _ (by omega)
  have hlast : (k : Int) + 1 = B ∨ ((k : Int) < B - 1 ∧ l.length = c.K) := by
    rcases Nat.lt_or_ge l.length c.K with h1 | h1
    · exact .inl (hfull h1)
    · by_cases h2 : (k : Int) + 1 = B
      · exact .inl h2
      · exact .inr ⟨by omega, by omega⟩
  have hfin : Hid (∀ (V2 : World) (cap5 : Nat) (l' : List R4), l'.length = cap5 → (x.got l).list = l' → Keep (fun y => y = b) w2 V2 → Blk V2 b 267 (rdCells c.k (x.got l).name (x.got l).kind (.slice (some ⟨g3, 0, none⟩) cap5 cap5) (x.got l).dead (x.got l).done (x.got l).back (x.got l).blocks (x.got l).place) → Blk V2 g3 111 (rcCells l').toArray →
      RdrTo c b G { s with D := s.D.readsN 1 } (x.got l) w V2) := Hid.intro_ (fun V2 cap5 l' h1 h2 k2 hb2 hg2 => by
    subst h1
    have hl' : l'.length = l.length ∧ ∀ r ∈ l', r.Ok := by
      rw [← h2]
      unfold RdSt.got
      simp only
      split
      · exact ⟨List.length_reverse, fun r hr => HO.out r (List.mem_reverse.1 hr)⟩
      · exact ⟨rfl, HO.out⟩
    obtain ⟨G5, h5, s5⟩ := H2.out.stored (x' := x.got l) hg3 k2 hb2 hg2 (Nat.le_refl _) h2 hl'.2 rfl (by rw [hl'.1]; exact hlK) H2.out.dead
    exact ⟨G5, h5, (Stp.of_nil KW.out.drew G).trans (S2.out.trans s5)⟩)
  rcases hlast with hl | ⟨hl, hlK2⟩
  · have hld : decide ((k : Int) < B - 1) = false := by simp; omega
    clear hfull hl
    go_quiet (fail)
    obtain ⟨V, kV, hV⟩ : ∃ V, Keep Nil w3 V ∧ V = w3.drewN nq := ⟨_, (Keep.refl Nil w3).drewN _, rfl⟩
    rw [← hV]
    clear hV
    have h4 := H3.out.nil kV
    obtain ⟨A4, cap4, _, hb4⟩ := h4.cells
    rw [HX.out, HB.out, HP.out] at hb4
    have gV := HGB.out.keep kV (fun h => h)
    have hne : b ≠ g3 := Blk.ne_ hb4 gV (by decide)
    have v0 : V.cell? ⟨b, 0, none⟩ = some (.pointer (some ⟨c.k, 0, none⟩)) := hb4.at_ 0
    have v3 : V.cell? ⟨b, 3, none⟩ = some (.slice A4 0 cap4) := hb4.at_ 3
    have v6 : V.cell? ⟨b, 6, none⟩ = some (.bool x.back) := hb4.at_ 6
    have v8 : V.cell? ⟨b, 8, none⟩ = some (.int .i64 k) := hb4.at_ 8
    have f3 := hb4.fr 3
    have f8 := hb4.fr 8
    have K23 : Hid (Keep Nil w2 V) := K3.out.then_ kV
    have b1 := hb4.set_ 3 (.slice (some ⟨g3, 0, none⟩) l.length l.length)
    have g1 := gV.far (p := ⟨b, 3, none⟩) (Ne.symm hne) (.slice (some ⟨g3, 0, none⟩) l.length l.length)
    have k1 : Keep (fun y => y = b) V (V.setCell ⟨b, 3, none⟩ (.slice (some ⟨g3, 0, none⟩) l.length l.length)) := (Keep.refl (fun y => y = b) V).setCell (p := ⟨b, 3, none⟩) (fun _ => rfl) _
    have HB4 := Hid.intro_ hb4
    have HGV := Hid.intro_ gV
    clear e0 e2 e7 e8 kV h4 hb4 gV
    cases hback : x.back
    · rw [hback] at v6
      have b2 := b1.set_ 8 (.int .i64 ((k : Int) + 1))
      have g2 := g1.far (p := ⟨b, 8, none⟩) (Ne.symm hne) (.int .i64 ((k : Int) + 1))
      have k2 := k1.setCell (p := ⟨b, 8, none⟩) (fun _ => rfl) (.int .i64 ((k : Int) + 1))
      have B2 := Hid.intro_ b2
      have G2' := Hid.intro_ g2
      have K2 := Hid.intro_ k2
      have HBK := Hid.intro_ hback
      clear b1 g1 k1 b2 g2 k2 hback
      go_wp2_with fail
      go_ret2
      refine ⟨rfl, hfin.out _ _ l rfl (by simp [RdSt.got, HBK.out]) ((K23.out.mono fun _ _ h => h.elim).then_ K2.out) ?_ G2'.out⟩
      have := B2.out
      simpa [rdCells, RdSt.got, HBK.out, HP.out, HB.out] using this
    · rw [hback] at v6
      have hrv := rev_rec g3 l.length l _ g1 (by have := HKB.out; omega)
      have c3 : (V.setCell ⟨b, 3, none⟩ (.slice (some ⟨g3, 0, none⟩) l.length l.length)).cell? ⟨b, 3, none⟩ = some (.slice (some ⟨g3, 0, none⟩) l.length l.length) := b1.at_ 3
      have HRV := Hid.intro_ hrv
      have HBK := Hid.intro_ hback
      have B1 := Hid.intro_ b1
      have K1 := Hid.intro_ k1
      clear b1 g1 k1 hrv hback
      go_wp2_with (first
        | (go_at_call 253; refine HRV.out.mono ?_; rintro e w5 ⟨rfl, hg5, k5⟩
           have b5 := B1.out.keep k5 hne
           have u8 : w5.cell? ⟨b, 8, none⟩ = some (.int .i64 k) := b5.at_ 8
           have u8f := b5.fr 8
           have b6 := Hid.intro_ (b5.set_ 8 (.int .i64 ((k : Int) - 1)))
           have g6 := Hid.intro_ (hg5.far (p := ⟨b, 8, none⟩) (Ne.symm hne) (.int .i64 ((k : Int) - 1)))
           have k6 : Hid (Keep (fun y => y = b) w2 (w5.setCell ⟨b, 8, none⟩ (.int .i64 ((k : Int) - 1)))) := (((K23.out.mono fun _ _ h => h.elim).then_ K1.out).trans k5 (fun y hy e => by have e : y = g3 := e; have hg3' : w2.heap.size ≤ g3 := hg3; omega)).setCell (p := ⟨b, 8, none⟩) (fun _ => rfl) _
           clear hg5 k5 b5))
      go_ret2
      refine ⟨rfl, hfin.out _ l.length l.reverse (by simp) (by simp [RdSt.got, HBK.out]) k6.out ?_ g6.out⟩
      have := b6.out
      simpa [rdCells, RdSt.got, HBK.out, HP.out, HB.out] using this
  · have hKl : ¬ ((l.length : Int) < (c.K : Int)) := by omega
    have hlnd : decide ((l.length : Int) < (c.K : Int)) = false := decide_eq_false hKl
    have hlnd2 : decide (l.length < c.K) = false := by simp; omega
    clear hfull hlK2
    go_quiet (fail)
    obtain ⟨V, kV, hV⟩ : ∃ V, Keep Nil w3 V ∧ V = w3.drewN nq := ⟨_, (Keep.refl Nil w3).drewN _, rfl⟩
    rw [← hV]
    clear hV
    have h4 := H3.out.nil kV
    obtain ⟨A4, cap4, _, hb4⟩ := h4.cells
    rw [HX.out, HB.out, HP.out] at hb4
    have gV := HGB.out.keep kV (fun h => h)
    have hne : b ≠ g3 := Blk.ne_ hb4 gV (by decide)
    have v0 : V.cell? ⟨b, 0, none⟩ = some (.pointer (some ⟨c.k, 0, none⟩)) := hb4.at_ 0
    have v3 : V.cell? ⟨b, 3, none⟩ = some (.slice A4 0 cap4) := hb4.at_ 3
    have v6 : V.cell? ⟨b, 6, none⟩ = some (.bool x.back) := hb4.at_ 6
    have v8 : V.cell? ⟨b, 8, none⟩ = some (.int .i64 k) := hb4.at_ 8
    have f3 := hb4.fr 3
    have f8 := hb4.fr 8
    have K23 : Hid (Keep Nil w2 V) := K3.out.then_ kV
    have b1 := hb4.set_ 3 (.slice (some ⟨g3, 0, none⟩) l.length l.length)
    have g1 := gV.far (p := ⟨b, 3, none⟩) (Ne.symm hne) (.slice (some ⟨g3, 0, none⟩) l.length l.length)
    have k1 : Keep (fun y => y = b) V (V.setCell ⟨b, 3, none⟩ (.slice (some ⟨g3, 0, none⟩) l.length l.length)) := (Keep.refl (fun y => y = b) V).setCell (p := ⟨b, 3, none⟩) (fun _ => rfl) _
    have HB4 := Hid.intro_ hb4
    have HGV := Hid.intro_ gV
    clear e0 e2 e7 e8 kV h4 hb4 gV
    cases hback : x.back
    · rw [hback] at v6
      have b2 := b1.set_ 8 (.int .i64 ((k : Int) + 1))
      have g2 := g1.far (p := ⟨b, 8, none⟩) (Ne.symm hne) (.int .i64 ((k : Int) + 1))
      have k2 := k1.setCell (p := ⟨b, 8, none⟩) (fun _ => rfl) (.int .i64 ((k : Int) + 1))
      have B2 := Hid.intro_ b2
      have G2' := Hid.intro_ g2
      have K2 := Hid.intro_ k2
      have HBK := Hid.intro_ hback
      clear b1 g1 k1 b2 g2 k2 hback
      go_wp2_with fail
      go_ret2
      refine ⟨rfl, hfin.out _ _ l rfl (by simp [RdSt.got, HBK.out]) ((K23.out.mono fun _ _ h => h.elim).then_ K2.out) ?_ G2'.out⟩
      have := B2.out
      simpa [rdCells, RdSt.got, HBK.out, HP.out, HB.out] using this
    · rw [hback] at v6
      have hrv := rev_rec g3 l.length l _ g1 (by have := HKB.out; omega)
      have c3 : (V.setCell ⟨b, 3, none⟩ (.slice (some ⟨g3, 0, none⟩) l.length l.length)).cell? ⟨b, 3, none⟩ = some (.slice (some ⟨g3, 0, none⟩) l.length l.length) := b1.at_ 3
      have HRV := Hid.intro_ hrv
      have HBK := Hid.intro_ hback
      have B1 := Hid.intro_ b1
      have K1 := Hid.intro_ k1
      clear b1 g1 k1 hrv hback
      go_wp2_with (first
        | (go_at_call 253; refine HRV.out.mono ?_; rintro e w5 ⟨rfl, hg5, k5⟩
           have b5 := B1.out.keep k5 hne
           have u8 : w5.cell? ⟨b, 8, none⟩ = some (.int .i64 k) := b5.at_ 8
           have u8f := b5.fr 8
           have b6 := Hid.intro_ (b5.set_ 8 (.int .i64 ((k : Int) - 1)))
           have g6 := Hid.intro_ (hg5.far (p := ⟨b, 8, none⟩) (Ne.symm hne) (.int .i64 ((k : Int) - 1)))
           have k6 : Hid (Keep (fun y => y = b) w2 (w5.setCell ⟨b, 8, none⟩ (.int .i64 ((k : Int) - 1)))) := (((K23.out.mono fun _ _ h => h.elim).then_ K1.out).trans k5 (fun y hy e => by have e : y = g3 := e; have hg3' : w2.heap.size ≤ g3 := hg3; omega)).setCell (p := ⟨b, 8, none⟩) (fun _ => rfl) _
           clear hg5 k5 b5))
      go_ret2
      refine ⟨rfl, hfin.out _ l.length l.reverse (by simp) (by simp [RdSt.got, HBK.out]) k6.out ?_ g6.out⟩
      have := b6.out
      simpa [rdCells, RdSt.got, HBK.out, HP.out, HB.out] using this
end Go.Proofs.YtadipinnbehhhaaGreatDoor
namespace Go.Proofs.YtadipinnbehhhaaGreatDoor
open Go.RowKit

structure LdR (c : Cx) (name : ByteArray) (kind : Nat) (L : List R4) (back : Bool) (b : Nat) (G : Nat → Prop) (s : RSt) (q : Nat) (rem : List R4) (w w' : World) : Prop where mk ::
  out : ∃ j q' x', j ≤ 1 ∧ q' + j = q ∧ RdLive c name kind L back x' q' rem ∧ x'.list ≠ [] ∧ RdrTo c b G { s with D := s.D.readsN j } x' w w'
theorem nblk_le40 {K : Nat} (hK : 0 < K) {n : Nat} (hn : n ≤ 1099511627776) : nblk K n ≤ 1099511627776 := Nat.le_trans (nblk_le K n hK) hn
section
variable {c : Cx} {w w' : World} {b : Nat} {G : Nat → Prop} {s : RSt} {x : RdSt} {fs : List (ByteArray × AFile)} {name : ByteArray} {kind : Nat} {L rem : List R4} {back : Bool} {q : Nat}

theorem RdLive.rem_ne (h : RdLive c name kind L back x q rem) (hl : x.list ≠ []) : rem ≠ [] := by
  cases hx : x.list with
  | nil => exact absurd hx hl
  | cons r l =>
    obtain ⟨rest, e, _⟩ := h.took hx
    rw [e]
    exact List.cons_ne_nil _ _
theorem RdLive.zero (h : RdLive c name kind L back x q rem) (hK : 0 < c.K) (hr : rem = []) : q = 0 ∧ x.list = [] := by
  have hl : x.list = [] := by
    cases hx : x.list with
    | nil => rfl
    | cons r l => exact absurd hr (h.rem_ne (by rw [hx]; exact List.cons_ne_nil _ _))
  refine ⟨?_, hl⟩
  rcases Nat.eq_zero_or_pos q with h0 | h0
  · exact h0
  · obtain ⟨k, _, _, h1, _, _, h2⟩ := h.more hK hl h0
    refine absurd hr (h2.rem_ne ?_)
    intro e
    simp only at e
    split at e
    · have := congrArg List.length e
      simp only [List.length_reverse, List.length_nil] at this
      omega
    · have := congrArg List.length e
      simp only [List.length_nil] at this
      omega
theorem load_none (h : RdrAt c w b G s x) (hv : RdLive c name kind L back x q rem) (hr : rem = []) :
    Calls Tryz.prog 201 #[.pointer (some ⟨b, 0, none⟩)] w fun e w' => e = .returned (.tuple #[.bool false, .int .i64 0]) ∧ Keep Nil w w' := by
  obtain ⟨_, hrm, _, _⟩ := h.via
  obtain ⟨rfl, hl⟩ := hv.zero hrm.posK hr
  exact load_still c w b G s x h false 0 (.inr (.inr ⟨hv.st, by rw [hl]; rfl, hv.last, rfl, rfl⟩))
theorem load_some (h : RdrAt c w b G s x) (hv : RdLive c name kind L back x q rem) (ht : TapeOn c fs name kind L) (hc : Calm s.D c.block fs) (hr : rem ≠ []) :
    Calls Tryz.prog 201 #[.pointer (some ⟨b, 0, none⟩)] w fun e w' => e = .returned (.tuple #[.bool true, .int .i64 0]) ∧ LdR c name kind L back b G s q rem w w' := by
  obtain ⟨_, hrm, _, _⟩ := h.via
  have hK := hrm.posK
  by_cases hl : x.list = []
  · have hq : 0 < q := by
      rcases Nat.eq_zero_or_pos q with h0 | h0
      · subst h0
        exact absurd ((hv.held hK).trans hl) hr
      · exact h0
    obtain ⟨k, hp, hk, h1, h2, h3, hv2⟩ := hv.more hK hl hq
    obtain ⟨hF, _⟩ := fit_div hrm.fitK hK
    have hn : (blocksB kind L c.block).length = nblk c.K L.length := by rw [blocksB_len, hF]
    have hb := hv.blocks
    have h40 := nblk_le40 hK ht.le
    have hread := ht.read hc (k := k) (by rw [hn]; exact hk)
    rw [blocks_at hF hk] at hread
    rw [← hv.nm, ← hv.kd] at hread
    refine (loadGo_ c w b G s x k (chunk c.K k L) h hv.st hl hp (by omega) (by omega) hread h1 h2 (fun e => by have := h3 e; omega) (chunk_oks ht.oks)).mono fun e w' ⟨he, hto⟩ => ⟨he, ⟨1, q - 1, x.got (chunk c.K k L), Nat.le_refl _, by omega, ?_, ?_, hto⟩⟩
    · have e : x.got (chunk c.K k L) = { x with list := if back then (chunk c.K k L).reverse else chunk c.K k L, place := if back then x.place - 1 else x.place + 1 } := by unfold RdSt.got; rw [hv.bk]
      rw [e]
      exact hv2
    · intro e
      have := congrArg List.length e
      unfold RdSt.got at this
      simp only at this
      split at this
      · simp only [List.length_reverse, List.length_nil] at this; omega
      · simp only [List.length_nil] at this; omega
  · have h1 : 1 ≤ x.list.length := List.length_pos_iff.2 hl
    exact (load_still c w b G s x h true 0 (.inr (.inl ⟨hv.st, h1, rfl, rfl⟩))).mono fun e w' ⟨he, hk⟩ => ⟨he, ⟨0, q, x, by omega, rfl, hv, hl, (RdrTo.refl h).nil hk⟩⟩
end
end Go.Proofs.YtadipinnbehhhaaGreatDoor
namespace Go.Proofs.YtadipinnbehhhaaGreatDoor
open Go.RowKit

theorem RdrAt.keep {c : Cx} {w w' : World} {b : Nat} {G H : Nat → Prop} {s : RSt} {x : RdSt} (h : RdrAt c w b G s x) (k : Keep H w w') (hH : ∀ y, H y → Off c.E G y) : RdrAt c w' b G s x := by
  obtain ⟨G0, v, rfl, hr, hb, nb, hl⟩ := h.out
  refine ⟨⟨G0, v, rfl, ?_, hb.keep k (fun hf => (hH _ hf).1 (.inl (.inr rfl))), nb, hl.keep k (fun g hg hf => (hH _ hf).1 (.inr hg))⟩, h.kind, h.len, h.dead⟩
  refine hr.keep k (fun y hy hf => (hH y hf).1 (.inl (.inl hy))) ⟨⟨hr.env.errs.errs, fun i hi hf => ((hH _ hf).2.1 i hi).1 rfl, fun i hi hf => ((hH _ hf).2.1 i hi).2 rfl⟩, hr.env.halves, hr.env.magic, fun hf => (hH _ hf).2.2.1 rfl, fun hf => (hH _ hf).2.2.2 rfl⟩
theorem RdrTo.rm {c : Cx} {w w' : World} {b : Nat} {G : Nat → Prop} {s' : RSt} {x' : RdSt} (h : RdrTo c b G s' x' w w') : RmTo c G s' w w' := by
  obtain ⟨G1, h1, s1⟩ := h
  obtain ⟨G0, hr, hs, _⟩ := h1.via
  exact ⟨G0, hr, s1.less hs⟩
def zero4 : Value := .agg #[.int .u64 0, .int .u64 0, .int .u64 0, .int .u64 0]
section
variable {c : Cx} {w w' : World} {b : Nat} {G : Nat → Prop} {s s' : RSt} {x x' : RdSt} {fs : List (ByteArray × AFile)} {name : ByteArray} {kind : Nat} {L rem : List R4} {back : Bool} {q : Nat}

theorem RdrTo.new_cell {w1 w2 : World} (h : RdrAt c w b G s x) {o : Obj} (t : RdrTo c b G s' x' (w.alloc o) w1) (k : Keep (fun y => y = w.heap.size) w1 w2) : RdrTo c b G s' x' w w2 := by
  obtain ⟨G1, h1, s1⟩ := t
  have off0 : Off c.E G w.heap.size := Off.new h.env h.lt (Nat.le_refl _)
  have off1 := off0.step (w := w.alloc o) (by simp) s1
  have ka : Keep Nil w (w.alloc o) := (Keep.refl Nil w).alloc o
  refine ⟨G1, h1.keep k (fun y e => by rw [show y = w.heap.size from e]; exact off1), ?_⟩
  have s0 := (Stp.of_nil ka G).trans s1
  exact ⟨s0.keep.trans k (fun y hy e => by have : y = w.heap.size := e; omega), s0.grow⟩
theorem RdrTo.kept {w1 : World} (h : RdrAt c w b G s x) {t : TypeId} {cs : Array Value} (ht : RdrTo c b G s' x' (w.alloc (.cells cs t)) w1) : Blk w1 w.heap.size t cs := by
  obtain ⟨G1, h1, s1⟩ := ht
  exact (Blk.new w t cs).keep s1.keep (fun hg => Nat.lt_irrefl _ (h.lt _ hg))
theorem peek_end (h : RdrAt c w b G s x) (hv : RdLive c name kind L back x q rem) (hr : rem = []) :
    Calls Tryz.prog 164 #[.pointer (some ⟨b, 0, none⟩)] w fun e w' => e = .returned (.tuple #[zero4, .bool false, .int .i64 0]) ∧ RdrTo c b G s x w w' := by
  have ka : Keep Nil w (w.alloc (.cells #[.int .u64 0, .int .u64 0, .int .u64 0, .int .u64 0] 111)) := (Keep.refl Nil w).alloc _
  refine peek_none b 0 w (fun w' => RdrTo c b G s x w w') ?_
  refine (load_none (h.nil ka) hv hr).mono fun e w1 ⟨he, k1⟩ => ?_
  have t1 : RdrTo c b G s x (w.alloc (.cells #[.int .u64 0, .int .u64 0, .int .u64 0, .int .u64 0] 111)) w1 := (RdrTo.refl (h.nil ka)).nil k1
  exact ⟨he, RdrTo.kept h t1, fun w2 k2 => RdrTo.new_cell h t1 k2⟩
theorem peek_live {r : R4} {rest : List R4} (h : RdrAt c w b G s x) (hv : RdLive c name kind L back x q rem) (ht : TapeOn c fs name kind L) (hc : Calm s.D c.block fs) (hr : rem = r :: rest) :
    Calls Tryz.prog 164 #[.pointer (some ⟨b, 0, none⟩)] w fun e w' => e = .returned (.tuple #[r.val, .bool true, .int .i64 0]) ∧ LdR c name kind L back b G s q rem w w' := by
  have ka : Keep Nil w (w.alloc (.cells #[.int .u64 0, .int .u64 0, .int .u64 0, .int .u64 0] 111)) := (Keep.refl Nil w).alloc _
  refine (peek_some b w (fun w' r' => r' = r ∧ LdR c name kind L back b G s q rem w w') ?_).mono fun e w' ⟨r', he, e2, hq⟩ => ⟨by rw [he, e2]; rfl, hq⟩
  refine (load_some (h.nil ka) hv ht hc (by rw [hr]; exact List.cons_ne_nil _ _)).mono fun e w1 ⟨he, hq⟩ => ?_
  obtain ⟨j, q', x', hj1, hj, hv', hne, t1⟩ := hq.out
  refine ⟨he, RdrTo.kept h t1, ?_⟩
  obtain ⟨G1, h1, s1⟩ := id t1
  obtain ⟨G0, v, rfl, hr1, hb1, nb1, hl1⟩ := h1.out
  obtain ⟨A, cap, rfl, hcap, hsp, hrd⟩ := hl1.form
  cases hx : x'.list with
  | nil => exact absurd hx hne
  | cons r0 l0 =>
    obtain ⟨rest0, e0, _⟩ := hv'.took hx
    have er : r0 = r := by rw [hr] at e0; injection e0 with e1 _; exact e1.symm
    subst er
    rw [hx] at hrd hcap hb1
    obtain ⟨⟨g, o, sp⟩, e1, _⟩ := hrd 0 (.int .u64 r0.a) rfl
    have hs := hsp _ e1
    simp only at hs
    subst hs
    subst e1
    refine ⟨g, o, _, cap, r0, hb1.at_ 3, by simp, fun i u hu => ?_, fun w2 k2 => ⟨rfl, ⟨j, q', x', hj1, hj, hv', hne, RdrTo.new_cell h t1 k2⟩⟩⟩
    refine hrd i u ?_
    have hi := (List.getElem?_eq_some_iff.1 hu).1
    rw [show rcCells (r0 :: l0) = rcCells [r0] ++ rcCells l0 from rcCells_app' [r0] l0, List.getElem?_append_left hi]
    exact hu
set_option maxRecDepth 100000 in
set_option maxHeartbeats 1000000 in
theorem next_none (n : Int) (h : RdrAt c w b G s x) (hp : Calls Tryz.prog 164 #[.pointer (some ⟨b, 0, none⟩)] (w.alloc (.cells #[.int .u64 0, .int .u64 0, .int .u64 0, .int .u64 0] 111)) fun e w' => e = .returned (.tuple #[zero4, .bool false, .int .i64 n]) ∧ RdrTo c b G s' x' (w.alloc (.cells #[.int .u64 0, .int .u64 0, .int .u64 0, .int .u64 0] 111)) w') :
    Calls Tryz.prog 102 #[.pointer (some ⟨b, 0, none⟩)] w fun e w' => e = .returned (.tuple #[zero4, .bool false, .int .i64 n]) ∧ RdrTo c b G s' x' w w' := by
  have HPK := Hid.intro_ hp
  have HH := Hid.intro_ h
  clear h hp
  unfold zero4 at *
  go_enter Tryz.func102, Tryz.ntmps102
  go_wp2_with fail
  refine HPK.out.mono ?_
  rintro e w1 ⟨rfl, t1⟩
  have hb := RdrTo.kept HH.out t1
  have z0 : w1.cell? ⟨w.heap.size, 0, none⟩ = some (.int .u64 0) := hb.at_ 0
  have z1 : w1.cell? ⟨w.heap.size, 1, none⟩ = some (.int .u64 0) := hb.at_ 1
  have z2 : w1.cell? ⟨w.heap.size, 2, none⟩ = some (.int .u64 0) := hb.at_ 2
  have z3 : w1.cell? ⟨w.heap.size, 3, none⟩ = some (.int .u64 0) := hb.at_ 3
  have f0 := hb.fr 0
  have f1 := hb.fr 1
  have f2 := hb.fr 2
  have f3 := hb.fr 3
  have T1 := Hid.intro_ t1
  have HB := Hid.intro_ hb
  have hlt := hb.lt
  have hne : ¬ w.heap.size = w1.heap.size := by omega
  have hne2 : ¬ w1.heap.size = w.heap.size := by omega
  clear t1 hb
  go_wp2_with fail
  have hb2 := ((((HB.out.set_ 0 (.int .u64 0)).set_ 1 (.int .u64 0)).set_ 2 (.int .u64 0)).set_ 3 (.int .u64 0)).alloc (.cells #[.int .u64 0, .int .u64 0, .int .u64 0, .int .u64 0] 111)
  have kp := (((((Keep.refl (fun x => x = w.heap.size) w1).setCell (p := ⟨w.heap.size, 0, none⟩) (fun _ => rfl) (.int .u64 0)).setCell (p := ⟨w.heap.size, 1, none⟩) (fun _ => rfl) (.int .u64 0)).setCell (p := ⟨w.heap.size, 2, none⟩) (fun _ => rfl) (.int .u64 0)).setCell (p := ⟨w.heap.size, 3, none⟩) (fun _ => rfl) (.int .u64 0)).alloc (.cells #[.int .u64 0, .int .u64 0, .int .u64 0, .int .u64 0] 111)
  have hq := RdrTo.new_cell HH.out T1.out kp
  generalize (((((w1.setCell ⟨w.heap.size, 0, none⟩ (.int .u64 0)).setCell ⟨w.heap.size, 1, none⟩ (.int .u64 0)).setCell ⟨w.heap.size, 2, none⟩ (.int .u64 0)).setCell ⟨w.heap.size, 3, none⟩ (.int .u64 0)).alloc (.cells #[.int .u64 0, .int .u64 0, .int .u64 0, .int .u64 0] 111)) = X at *
  have y0 : X.cell? ⟨w.heap.size, 0, none⟩ = some (.int .u64 0) := hb2.at_ 0
  have y1 : X.cell? ⟨w.heap.size, 1, none⟩ = some (.int .u64 0) := hb2.at_ 1
  have y2 : X.cell? ⟨w.heap.size, 2, none⟩ = some (.int .u64 0) := hb2.at_ 2
  have y3 : X.cell? ⟨w.heap.size, 3, none⟩ = some (.int .u64 0) := hb2.at_ 3
  refine bodyPost_ret (v := .tuple #[.agg #[.int .u64 0, .int .u64 0, .int .u64 0, .int .u64 0], .bool false, .int .i64 n]) (by simp [results, Tryz.results102, go_sem, y0, y1, y2, y3]) rfl ⟨rfl, hq⟩
theorem next_end (h : RdrAt c w b G s x) (hv : RdLive c name kind L back x q rem) (hr : rem = []) :
    Calls Tryz.prog 102 #[.pointer (some ⟨b, 0, none⟩)] w fun e w' => e = .returned (.tuple #[zero4, .bool false, .int .i64 0]) ∧ RdrTo c b G s x w w' :=
  next_none 0 h (peek_end (h.nil ((Keep.refl Nil w).alloc _)) hv hr)
structure NxR (c : Cx) (name : ByteArray) (kind : Nat) (L : List R4) (back : Bool) (b : Nat) (G : Nat → Prop) (s : RSt) (q : Nat) (rest : List R4) (w w' : World) : Prop where mk ::
  out : ∃ j q' x', j ≤ 1 ∧ q' + j = q ∧ RdLive c name kind L back x' q' rest ∧ RdrTo c b G { s with D := s.D.readsN j } x' w w'
theorem RdrAt.tail {r : R4} {l : List R4} (h : RdrAt c w b G s x) (hx : x.list = r :: l) : ∃ g o cap, w.cell? ⟨b, 3, none⟩ = some (.slice (some ⟨g, o, none⟩) (l.length + 1) cap) ∧ l.length + 1 ≤ cap ∧ w.frozen? ⟨b, 3, none⟩ = false ∧
    ∀ o', (o' = o + 4 ∨ l = []) → RdrTo c b G s { x with list := l } w (w.setCell ⟨b, 3, none⟩ (.slice (some ⟨g, o', none⟩) l.length (cap - 1))) := by
  obtain ⟨G0, v, rfl, hr1, hb1, nb1, hl1⟩ := h.out
  obtain ⟨A, cap, rfl, hcap, hsp, hrd⟩ := hl1.form
  have hlen := h.len
  have hoks := hl1.oks
  rw [hx] at hrd hcap hlen hoks
  obtain ⟨⟨g, o, sp⟩, e1, _⟩ := hrd 0 (.int .u64 r.a) rfl
  have hs := hsp _ e1
  simp only at hs
  subst hs
  subst e1
  have hcap : l.length + 1 ≤ cap := hcap
  have hlen : l.length + 1 ≤ c.K := hlen
  refine ⟨g, o, cap, by have := hb1.at_ 3; rw [hx] at this; exact this, hcap, hb1.fr 3, fun o' ho' => ?_⟩
  have k : Keep (fun y => y = b) w (w.setCell ⟨b, 3, none⟩ (.slice (some ⟨g, o', none⟩) l.length (cap - 1))) := (Keep.refl (fun y => y = b) w).setCell (p := ⟨b, 3, none⟩) (fun _ => rfl) _
  have hgb : ¬ g = b := fun e => (hl1.off g rfl).1 (.inr e)
  refine RdrAt.at_own (x' := { x with list := l }) (v' := .slice (some ⟨g, o', none⟩) l.length (cap - 1)) hr1 nb1 hb1.lt hl1.off (k.mono fun y _ e => .inl e) (hb1.set_ 3 _) ⟨_, _, rfl, (show l.length ≤ cap - 1 by omega), (fun a e => by injection e with e; subst e; rfl), fun i u hu => ?_⟩ (fun g' hg' => ?_) (fun r' hr' => hoks r' (List.mem_cons_of_mem _ hr')) (.inr (.inl rfl)) h.kind (show l.length ≤ c.K by omega) h.dead
  · rcases ho' with e | e
    · obtain ⟨ad, e2, hc⟩ := hrd (i + 4) u (by
        rw [show rcCells (r :: l) = rcCells [r] ++ rcCells l from rcCells_app' [r] l, List.getElem?_append_right (by rw [rcCells_len']; simp), rcCells_len']
        simpa using hu)
      injection e2 with e2
      subst e2
      refine ⟨_, rfl, ?_⟩
      rw [add_at] at hc ⊢
      rw [show o' + i = o + (i + 4) by omega]
      have hn : ¬ (fun y => y = b) (⟨g, o + (i + 4), none⟩ : Addr).block := hgb
      exact cell_keep (F := fun y => y = b) hc k hn
    · subst e
      simp [rcCells] at hu
  · have e : g = g' := by simpa [Value.ownBlock] using hg'
    rw [← e]
    exact Nat.lt_of_lt_of_le (hl1.lt g rfl) k.size
set_option maxRecDepth 100000 in
set_option maxHeartbeats 1000000 in
theorem next_live {r : R4} {rest : List R4} (h : RdrAt c w b G s x) (hv : RdLive c name kind L back x q rem) (ht : TapeOn c fs name kind L) (hc : Calm s.D c.block fs) (hr : rem = r :: rest) :
    Calls Tryz.prog 102 #[.pointer (some ⟨b, 0, none⟩)] w fun e w' => e = .returned (.tuple #[r.val, .bool true, .int .i64 0]) ∧ NxR c name kind L back b G s q rest w w' := by
  have ka : Keep Nil w (w.alloc (.cells #[.int .u64 0, .int .u64 0, .int .u64 0, .int .u64 0] 111)) := (Keep.refl Nil w).alloc _
  have HPK := Hid.intro_ (peek_live (h.nil ka) hv ht hc hr)
  obtain ⟨_, _, _, hbw⟩ := h.cells
  have hbl := hbw.lt
  have HH := Hid.intro_ h
  have HR := Hid.intro_ hr
  clear hv h hr ka ht hc hbw
  unfold R4.val at *
  go_enter Tryz.func102, Tryz.ntmps102
  go_wp2_with fail
  refine HPK.out.mono ?_
  rintro e w1 ⟨rfl, hq⟩
  obtain ⟨j, q', x', hj1, hj, hv', hne', t1⟩ := hq.out
  have hb := RdrTo.kept HH.out t1
  obtain ⟨G1, h1, s1⟩ := t1
  obtain ⟨l0, hx⟩ : ∃ l0, x'.list = r :: l0 := by
    cases hx : x'.list with
    | nil => exact absurd hx hne'
    | cons r0 l0 =>
      obtain ⟨rest0, e0, _⟩ := hv'.took hx
      rw [HR.out] at e0
      injection e0 with e1 _
      exact ⟨l0, by rw [e1]⟩
  obtain ⟨rest0, e0, hv2⟩ := hv'.took hx
  have er : rest0 = rest := by rw [HR.out] at e0; injection e0 with _ e1; exact e1.symm
  subst er
  obtain ⟨g, o, cap, c3, hcap, f3, htl⟩ := h1.tail hx
  have z0 : w1.cell? ⟨w.heap.size, 0, none⟩ = some (.int .u64 0) := hb.at_ 0
  have z1 : w1.cell? ⟨w.heap.size, 1, none⟩ = some (.int .u64 0) := hb.at_ 1
  have z2 : w1.cell? ⟨w.heap.size, 2, none⟩ = some (.int .u64 0) := hb.at_ 2
  have z3 : w1.cell? ⟨w.heap.size, 3, none⟩ = some (.int .u64 0) := hb.at_ 3
  have g0 := hb.fr 0
  have g1 := hb.fr 1
  have g2 := hb.fr 2
  have g3 := hb.fr 3
  have HB := Hid.intro_ hb
  have hlt := hb.lt
  have hne : ¬ w.heap.size = w1.heap.size := by omega
  have hne2 : ¬ w1.heap.size = w.heap.size := by omega
  have hbn : ¬ b = w.heap.size := by omega
  have hbn1 : ¬ b = w1.heap.size := by omega
  have hbn2 : ¬ w.heap.size = b := by omega
  have hbl1 : b < w1.heap.size := by omega
  have HX := Hid.intro_ hx
  have HV2 := Hid.intro_ hv2
  have S1 := Hid.intro_ s1
  have HTL := Hid.intro_ htl
  clear hq hb h1 hx hv2 hv' s1 htl e0 hne'
  by_cases hc1 : cap = 1
  · subst hc1
    obtain rfl : l0 = [] := List.eq_nil_of_length_eq_zero (by omega)
    go_wp2_with fail
    have hb2 := HB.out.far (p := ⟨b, 3, none⟩) hbn2 (.slice (some ⟨g, o, none⟩) 0 0)
    have hb3 := ((((hb2.set_ 0 (.int .u64 r.a)).set_ 1 (.int .u64 r.b)).set_ 2 (.int .u64 r.c)).set_ 3 (.int .u64 r.d)).alloc (.cells #[.int .u64 r.a, .int .u64 r.b, .int .u64 r.c, .int .u64 r.d] 111)
    obtain ⟨G2, h2, s2⟩ := HTL.out o (by first | exact .inr rfl | exact .inr trivial)
    have t2 : RdrTo c b G { s with D := s.D.readsN j } { x' with list := [] } (w.alloc (.cells #[.int .u64 0, .int .u64 0, .int .u64 0, .int .u64 0] 111)) (w1.setCell ⟨b, 3, none⟩ (.slice (some ⟨g, o, none⟩) 0 0)) := ⟨G2, h2, S1.out.trans s2⟩
    have kp := (((((Keep.refl (fun x => x = w.heap.size) (w1.setCell ⟨b, 3, none⟩ (.slice (some ⟨g, o, none⟩) 0 0))).setCell (p := ⟨w.heap.size, 0, none⟩) (fun _ => rfl) (.int .u64 r.a)).setCell (p := ⟨w.heap.size, 1, none⟩) (fun _ => rfl) (.int .u64 r.b)).setCell (p := ⟨w.heap.size, 2, none⟩) (fun _ => rfl) (.int .u64 r.c)).setCell (p := ⟨w.heap.size, 3, none⟩) (fun _ => rfl) (.int .u64 r.d)).alloc (.cells #[.int .u64 r.a, .int .u64 r.b, .int .u64 r.c, .int .u64 r.d] 111)
    have hfin := RdrTo.new_cell HH.out t2 kp
    generalize ((((((w1.setCell ⟨b, 3, none⟩ (.slice (some ⟨g, o, none⟩) 0 0)).setCell ⟨w.heap.size, 0, none⟩ (.int .u64 r.a)).setCell ⟨w.heap.size, 1, none⟩ (.int .u64 r.b)).setCell ⟨w.heap.size, 2, none⟩ (.int .u64 r.c)).setCell ⟨w.heap.size, 3, none⟩ (.int .u64 r.d)).alloc (.cells #[.int .u64 r.a, .int .u64 r.b, .int .u64 r.c, .int .u64 r.d] 111)) = X at *
    have y0 : X.cell? ⟨w.heap.size, 0, none⟩ = some (.int .u64 r.a) := hb3.at_ 0
    have y1 : X.cell? ⟨w.heap.size, 1, none⟩ = some (.int .u64 r.b) := hb3.at_ 1
    have y2 : X.cell? ⟨w.heap.size, 2, none⟩ = some (.int .u64 r.c) := hb3.at_ 2
    have y3 : X.cell? ⟨w.heap.size, 3, none⟩ = some (.int .u64 r.d) := hb3.at_ 3
    refine bodyPost_ret (v := .tuple #[.agg #[.int .u64 r.a, .int .u64 r.b, .int .u64 r.c, .int .u64 r.d], .bool true, .int .i64 0]) (by simp [results, Tryz.results102, go_sem, y0, y1, y2, y3]) rfl ⟨rfl, ⟨j, q', _, hj1, hj, HV2.out, hfin⟩⟩
  · have q1 : (1 : Int) ≤ (cap : Int) := by omega
    go_wp2_with fail
    have hb2 := HB.out.far (p := ⟨b, 3, none⟩) hbn2 (.slice (some ⟨g, o + 4, none⟩) l0.length (cap - 1))
    have hb3 := ((((hb2.set_ 0 (.int .u64 r.a)).set_ 1 (.int .u64 r.b)).set_ 2 (.int .u64 r.c)).set_ 3 (.int .u64 r.d)).alloc (.cells #[.int .u64 r.a, .int .u64 r.b, .int .u64 r.c, .int .u64 r.d] 111)
    obtain ⟨G2, h2, s2⟩ := HTL.out (o + 4) (.inl rfl)
    have t2 : RdrTo c b G { s with D := s.D.readsN j } { x' with list := l0 } (w.alloc (.cells #[.int .u64 0, .int .u64 0, .int .u64 0, .int .u64 0] 111)) (w1.setCell ⟨b, 3, none⟩ (.slice (some ⟨g, o + 4, none⟩) l0.length (cap - 1))) := ⟨G2, h2, S1.out.trans s2⟩
    have kp := (((((Keep.refl (fun x => x = w.heap.size) (w1.setCell ⟨b, 3, none⟩ (.slice (some ⟨g, o + 4, none⟩) l0.length (cap - 1)))).setCell (p := ⟨w.heap.size, 0, none⟩) (fun _ => rfl) (.int .u64 r.a)).setCell (p := ⟨w.heap.size, 1, none⟩) (fun _ => rfl) (.int .u64 r.b)).setCell (p := ⟨w.heap.size, 2, none⟩) (fun _ => rfl) (.int .u64 r.c)).setCell (p := ⟨w.heap.size, 3, none⟩) (fun _ => rfl) (.int .u64 r.d)).alloc (.cells #[.int .u64 r.a, .int .u64 r.b, .int .u64 r.c, .int .u64 r.d] 111)
    have hfin := RdrTo.new_cell HH.out t2 kp
    generalize ((((((w1.setCell ⟨b, 3, none⟩ (.slice (some ⟨g, o + 4, none⟩) l0.length (cap - 1))).setCell ⟨w.heap.size, 0, none⟩ (.int .u64 r.a)).setCell ⟨w.heap.size, 1, none⟩ (.int .u64 r.b)).setCell ⟨w.heap.size, 2, none⟩ (.int .u64 r.c)).setCell ⟨w.heap.size, 3, none⟩ (.int .u64 r.d)).alloc (.cells #[.int .u64 r.a, .int .u64 r.b, .int .u64 r.c, .int .u64 r.d] 111)) = X at *
    have y0 : X.cell? ⟨w.heap.size, 0, none⟩ = some (.int .u64 r.a) := hb3.at_ 0
    have y1 : X.cell? ⟨w.heap.size, 1, none⟩ = some (.int .u64 r.b) := hb3.at_ 1
    have y2 : X.cell? ⟨w.heap.size, 2, none⟩ = some (.int .u64 r.c) := hb3.at_ 2
    have y3 : X.cell? ⟨w.heap.size, 3, none⟩ = some (.int .u64 r.d) := hb3.at_ 3
    refine bodyPost_ret (v := .tuple #[.agg #[.int .u64 r.a, .int .u64 r.b, .int .u64 r.c, .int .u64 r.d], .bool true, .int .i64 0]) (by simp [results, Tryz.results102, go_sem, y0, y1, y2, y3]) rfl ⟨rfl, ⟨j, q', _, hj1, hj, HV2.out, hfin⟩⟩
end
end Go.Proofs.YtadipinnbehhhaaGreatDoor
namespace Go.Proofs.YtadipinnbehhhaaGreatDoor
open Go.RowKit

set_option maxRecDepth 100000 in
set_option maxHeartbeats 1000000 in
theorem rclose_d (c : Cx) (w : World) (b : Nat) (G : Nat → Prop) (s : RSt) (x : RdSt) (u : FrameMode) (h : RdrAt c w b G s x) :
    CallsD Tryz.prog 93 #[.pointer (some ⟨b, 0, none⟩)] u w fun e u' w' => u' = u ∧ (e = .returned (.int .i64 (rclose c s x).1) ∧ RdrTo c b G (rclose c s x).2.1 (rclose c s x).2.2 w w') := by
  obtain ⟨A, cap, _, hb⟩ := h.cells
  have hs := Hid.intro_ (state_any b c.k x.dead x.done w (hb.at_ 0) (hb.at_ 4) (hb.at_ 5))
  have HE := Hid.intro_ (end_r c w b G s x h)
  obtain ⟨q, hq⟩ : ∃ q, q = stSt x.done x.dead := ⟨_, rfl⟩
  unfold rclose
  rw [← hq] at hs ⊢
  clear hq hb
  by_cases h6 : q = 6
  · subst h6
    rw [if_pos rfl]
    go_enter_d Tryz.func93, Tryz.ntmps93
    go_wp2_with (go_at_call 149; refine hs.out.mono ?_; rintro e w' ⟨rfl, hw⟩; obtain rfl := hw.symm)
    go_ret
    exact ⟨rfl, RdrTo.refl h⟩
  · rw [if_neg h6]
    have e6 : (q == 6) = false := by simpa using h6
    clear h6
    go_enter_d Tryz.func93, Tryz.ntmps93
    go_wp2_with (first
      | (go_at_call 149; refine hs.out.mono ?_; rintro e w' ⟨rfl, hw⟩; obtain rfl := hw.symm)
      | (go_at_call 150; refine HE.out.mono ?_; rintro e w2 ⟨rfl, ht⟩))
    go_ret
    exact ⟨rfl, ht⟩
end Go.Proofs.YtadipinnbehhhaaGreatDoor
namespace Go.Proofs.YtadipinnbehhhaaGreatDoor
open Go.RowKit

section
variable {c : Cx} {w w' : World} {b : Nat} {G : Nat → Prop} {s s' : RSt} {x x' : RdSt} {fs : List (ByteArray × AFile)} {name : ByteArray} {kind : Nat} {L rem : List R4} {back : Bool} {q : Nat}

def WentTo (c : Cx) (G : Nat → Prop) (J : Nat) (h : Int) (s : RSt) (w w' : World) : Prop := ∃ j s', j ≤ J ∧ Went j h s s' ∧ RmTo c G s' w w'
theorem RdLive.closes (hv : RdLive c name kind L back x q rem) : rclose c s x = (0, (rend c s x).1, (rend c s x).2) := by
  unfold rclose
  rw [hv.st, if_neg (by decide)]
theorem RdP.tape {kind2 : Nat} {w1 : World} {e : Ending} (hp : RdP c G (openR s.D s.S c.K name kind2) s name kind2 back w e w1) (t : TapeOn c fs name kind L) (hc : Calm s.D c.block fs) (hk : 1 ≤ kind2 ∧ kind2 ≤ 5) (hcl : s.S.closed = false) (hf : (c.K : Int) ≤ s.S.limit - (s.S.hand + s.S.parts)) :
    ∃ b, e = .returned (.tuple #[.pointer (some ⟨b, 0, none⟩), .int .i64 0]) ∧ w.heap.size ≤ b ∧
      RdrTo c b G { s with S := s.S.take c.K } { name := name, kind := kind2, dead := 0, done := false, back := back, blocks := ((blocksB kind L c.block).length : Int), place := if back then ((blocksB kind L c.block).length : Int) - 1 else 0, list := [] } w w1 := by
  have ho := open_tape (kind2 := kind2) t hc hk hcl hf
  have hout := hp.out
  rw [ho, t.readable hc] at hout
  rcases hout with ⟨h, _⟩ | ⟨_, b, he, hb, hto⟩
  · exact absurd rfl h
  · exact ⟨b, he, hb, hto⟩
theorem RmAt.blocks_len (h : RmAt c w G s) (kind : Nat) (L : List R4) : (blocksB kind L c.block).length = nblk c.K L.length := by
  obtain ⟨hF, _⟩ := fit_div h.fitK h.posK
  rw [blocksB_len, hF]
def lastV (L : List R4) : Value := match L.reverse with
  | [] => zero4
  | r :: _ => r.val
theorem last_fin {w1 w2 X w9 : World} {G1 G2 : Nat → Prop} {o : Obj} {j : Nat} {s1 s2 : RSt} {x2 : RdSt} (_h : RmAt c w G s) (h1 : Went 0 c.K s s1) (h2 : Went j 0 s1 s2) (hcl : s.S.closed = false) (hh : 0 ≤ s.S.hand) (hj : j ≤ 1) (a1 : Stp (w.alloc o) G w1 G1) (a2 : Stp w1 G1 w2 G2) (k : Keep (fun y => y = w.heap.size) w2 X) (t : RdrTo c b G2 (rend c s2 x2).1 x' X w9) :
    WentTo c G 1 0 s w w9 := by
  have h3 : Went 0 (-(c.K : Int)) s2 (rend c s2 x2).1 := Went.give s2 (by rw [h2.closed, h1.closed]; exact hcl) (by rw [h2.hand, h1.hand]; omega)
  refine ⟨j, _, hj, ((h1.trans h2).trans h3).of_eq (by omega) (by omega), ?_⟩
  obtain ⟨G3, hr, s3⟩ := t.rm
  have s0 := ((Stp.of_nil ((Keep.refl Nil w).alloc o) G).trans a1).trans a2
  refine ⟨G3, hr, ?_⟩
  have s4 : Stp w G X G2 := ⟨s0.keep.trans k (fun y hy e => by have : y = w.heap.size := e; omega), s0.grow⟩
  exact s4.trans s3
theorem size_fin {w1 w2 w9 : World} {G1 G2 : Nat → Prop} {j : Nat} {s1 s2 : RSt} {x2 : RdSt} (h1 : Went 0 c.K s s1) (h2 : Went j 0 s1 s2) (hcl : s.S.closed = false) (hh : 0 ≤ s.S.hand) (hj : j ≤ 1) (a1 : Stp w G w1 G1) (a2 : Stp w1 G1 w2 G2) (t : RdrTo c b G2 (rend c s2 x2).1 x' w2 w9) :
    WentTo c G 1 0 s w w9 := by
  have h3 : Went 0 (-(c.K : Int)) s2 (rend c s2 x2).1 := Went.give s2 (by rw [h2.closed, h1.closed]; exact hcl) (by rw [h2.hand, h1.hand]; omega)
  refine ⟨j, _, hj, ((h1.trans h2).trans h3).of_eq (by omega) (by omega), ?_⟩
  obtain ⟨G3, hr, s3⟩ := t.rm
  exact ⟨G3, hr, (a1.trans a2).trans s3⟩
set_option maxRecDepth 100000 in
set_option maxHeartbeats 2000000 in
theorem last_tape (h : RmAt c w G s) (t : TapeOn c fs name kind L) (hc : Calm s.D c.block fs) (hk : kind ≤ 5) (hcl : s.S.closed = false) (hh : 0 ≤ s.S.hand) (hf : (c.K : Int) ≤ s.S.limit - (s.S.hand + s.S.parts)) :
    Calls Tryz.prog 78 #[.pointer (some ⟨c.k, 0, none⟩), .string name, .int .i64 kind] w fun e w' => e = .returned (.tuple #[lastV L, .bool (!L.isEmpty), .int .i64 0]) ∧ WentTo c G 1 0 s w w' := by
  have ka : Keep Nil w (w.alloc (.cells #[.int .u64 0, .int .u64 0, .int .u64 0, .int .u64 0] 111)) := (Keep.refl Nil w).alloc _
  have hread := t.readable hc
  have hbl := h.blocks_len kind L
  have h40 := nblk_le40 h.posK t.le
  have hback := (tback_rm c _ G s name kind (h.nil ka) (by rw [hread]; omega) (by rw [hread, hbl]; omega)).mono fun e w1 hp => hp.tape t hc ⟨t.kind.1, hk⟩ hcl hf
  have HB := Hid.intro_ hback
  have HH := Hid.intro_ h
  have HT := Hid.intro_ t
  have HC := Hid.intro_ hc
  have hlive := RdLive.fresh (c := c) name kind L true (blocksB kind L c.block).length h.posK hbl
  have HLV := Hid.intro_ hlive
  have hg1 := Went.take s hcl hf
  have HG1 := Hid.intro_ hg1
  have HHH := Hid.intro_ hh
  have HCL := Hid.intro_ hcl
  have hz := Hid.intro_ (show Off c.E G w.heap.size from Off.new h.env h.lt (Nat.le_refl _))
  clear hback h t hc hlive hg1 hread hbl h40 ka hf hk hh hcl
  go_enter_defers Tryz.func78, Tryz.ntmps78
  go_wp2_with fail
  refine HB.out.mono ?_
  rintro e w1 ⟨b, rfl, hb, G1, h1, s1⟩
  have hlv : RdLive c name kind L true _ (blocksB kind L c.block).length L.reverse := HLV.out
  have hsz : w.heap.size < w1.heap.size := by have := s1.keep.size; simp at this; omega
  have OFF1 := Hid.intro_ (hz.out.step (w := w.alloc (.cells #[.int .u64 0, .int .u64 0, .int .u64 0, .int .u64 0] 111)) (by simp) s1)
  have HB1 := Hid.intro_ ((Blk.new w 111 #[.int .u64 0, .int .u64 0, .int .u64 0, .int .u64 0]).keep s1.keep hz.out.1)
  have S1 := Hid.intro_ s1
  have H1 := Hid.intro_ h1
  cases hL : L.reverse with
  | nil =>
    have hnx := next_end h1 hlv hL
    have HLV2 := Hid.intro_ hlv
    have HLB := Hid.intro_ (show (.tuple #[lastV L, .bool (!L.isEmpty), .int .i64 0] : Value) = .tuple #[zero4, .bool false, .int .i64 0] by
      have : L = [] := by simpa using hL
      subst this
      rfl)
    clear h1 hlv s1 hL hb
    unfold zero4 at *
    have HNX := Hid.intro_ hnx
    clear hnx
    go_wp2_with fail
    refine HNX.out.mono ?_
    rintro e w2 ⟨rfl, hq⟩
    obtain ⟨G2, h2, s2⟩ := hq
    have HG2 := Hid.intro_ (Went.refl { s with S := s.S.take c.K })
    have hj1 : 0 ≤ 1 := by omega
    have H2 := Hid.intro_ h2
    have off2 := OFF1.out.step (by omega) s2
    have hb2 := HB1.out.keep s2.keep OFF1.out.1
    have z0 : w2.cell? ⟨w.heap.size, 0, none⟩ = some (.int .u64 0) := hb2.at_ 0
    have z1 : w2.cell? ⟨w.heap.size, 1, none⟩ = some (.int .u64 0) := hb2.at_ 1
    have z2 : w2.cell? ⟨w.heap.size, 2, none⟩ = some (.int .u64 0) := hb2.at_ 2
    have z3 : w2.cell? ⟨w.heap.size, 3, none⟩ = some (.int .u64 0) := hb2.at_ 3
    have g0 := hb2.fr 0
    have g1 := hb2.fr 1
    have g2 := hb2.fr 2
    have g3 := hb2.fr 3
    have S2 := Hid.intro_ s2
    have OFF2 := Hid.intro_ off2
    have HB2 := Hid.intro_ hb2
    clear h2 s2 off2 hb2
    go_wp2_with fail
    have hb3 := (((HB2.out.set_ 0 (.int .u64 0)).set_ 1 (.int .u64 0)).set_ 2 (.int .u64 0)).set_ 3 (.int .u64 0)
    have kp := ((((Keep.refl (fun y => y = w.heap.size) w2).setCell (p := ⟨w.heap.size, 0, none⟩) (fun _ => rfl) (.int .u64 0)).setCell (p := ⟨w.heap.size, 1, none⟩) (fun _ => rfl) (.int .u64 0)).setCell (p := ⟨w.heap.size, 2, none⟩) (fun _ => rfl) (.int .u64 0)).setCell (p := ⟨w.heap.size, 3, none⟩) (fun _ => rfl) (.int .u64 0)
    generalize (((w2.setCell ⟨w.heap.size, 0, none⟩ (.int .u64 0)).setCell ⟨w.heap.size, 1, none⟩ (.int .u64 0)).setCell ⟨w.heap.size, 2, none⟩ (.int .u64 0)).setCell ⟨w.heap.size, 3, none⟩ (.int .u64 0) = X at *
    have h3 := H2.out.keep kp (fun y e => by rw [show y = w.heap.size from e]; exact OFF2.out)
    refine leaves_cons (f := 93) (args := #[.pointer (some ⟨b, 0, none⟩)]) (by simp) (by simp [go_sem]) ?_
    refine (rclose_d c _ b _ _ _ .returning h3).mono ?_
    rintro e u' w9 ⟨rfl, rfl, G4, h4, s4⟩
    rw [HLV2.out.closes] at h4
    have hb9 := hb3.keep s4.keep OFF2.out.1
    have y0 : w9.cell? ⟨w.heap.size, 0, none⟩ = some (.int .u64 0) := hb9.at_ 0
    have y1 : w9.cell? ⟨w.heap.size, 1, none⟩ = some (.int .u64 0) := hb9.at_ 1
    have y2 : w9.cell? ⟨w.heap.size, 2, none⟩ = some (.int .u64 0) := hb9.at_ 2
    have y3 : w9.cell? ⟨w.heap.size, 3, none⟩ = some (.int .u64 0) := hb9.at_ 3
    refine ⟨.tuple #[.agg #[.int .u64 0, .int .u64 0, .int .u64 0, .int .u64 0], .bool false, .int .i64 0], by simp [results, Tryz.results78, go_sem, y0, y1, y2, y3], by rw [HLB.out], ?_⟩
    exact last_fin HH.out HG1.out HG2.out HCL.out HHH.out hj1 S1.out S2.out kp ⟨G4, h4, s4⟩
  | cons r l =>
    have hnx := next_live h1 hlv HT.out HC.out hL
    have HLB := Hid.intro_ (show (.tuple #[lastV L, .bool (!L.isEmpty), .int .i64 0] : Value) = .tuple #[r.val, .bool true, .int .i64 0] by
      unfold lastV
      rw [hL]
      have : L.isEmpty = false := by cases L with
        | nil => simp at hL
        | cons _ _ => rfl
      rw [this]
      rfl)
    clear h1 hlv s1 hL hb
    unfold R4.val at *
    have HNX := Hid.intro_ hnx
    clear hnx
    go_wp2_with fail
    refine HNX.out.mono ?_
    rintro e w2 ⟨rfl, hq⟩
    obtain ⟨j, q', x2, hj1, _, hlv2, G2, h2, s2⟩ := hq.out
    have HG2 := Hid.intro_ (show Went j 0 { s with S := s.S.take c.K } { s with D := s.D.readsN j, S := s.S.take c.K } from ⟨rfl, rfl, rfl, by simp, rfl, rfl, rfl⟩)
    have HLV2 := Hid.intro_ hlv2
    have H2 := Hid.intro_ h2
    have off2 := OFF1.out.step (by omega) s2
    have hb2 := HB1.out.keep s2.keep OFF1.out.1
    have z0 : w2.cell? ⟨w.heap.size, 0, none⟩ = some (.int .u64 0) := hb2.at_ 0
    have z1 : w2.cell? ⟨w.heap.size, 1, none⟩ = some (.int .u64 0) := hb2.at_ 1
    have z2 : w2.cell? ⟨w.heap.size, 2, none⟩ = some (.int .u64 0) := hb2.at_ 2
    have z3 : w2.cell? ⟨w.heap.size, 3, none⟩ = some (.int .u64 0) := hb2.at_ 3
    have g0 := hb2.fr 0
    have g1 := hb2.fr 1
    have g2 := hb2.fr 2
    have g3 := hb2.fr 3
    have S2 := Hid.intro_ s2
    have OFF2 := Hid.intro_ off2
    have HB2 := Hid.intro_ hb2
    clear h2 s2 off2 hb2
    go_wp2_with fail
    have hb3 := (((HB2.out.set_ 0 (.int .u64 r.a)).set_ 1 (.int .u64 r.b)).set_ 2 (.int .u64 r.c)).set_ 3 (.int .u64 r.d)
    have kp := ((((Keep.refl (fun y => y = w.heap.size) w2).setCell (p := ⟨w.heap.size, 0, none⟩) (fun _ => rfl) (.int .u64 r.a)).setCell (p := ⟨w.heap.size, 1, none⟩) (fun _ => rfl) (.int .u64 r.b)).setCell (p := ⟨w.heap.size, 2, none⟩) (fun _ => rfl) (.int .u64 r.c)).setCell (p := ⟨w.heap.size, 3, none⟩) (fun _ => rfl) (.int .u64 r.d)
    generalize (((w2.setCell ⟨w.heap.size, 0, none⟩ (.int .u64 r.a)).setCell ⟨w.heap.size, 1, none⟩ (.int .u64 r.b)).setCell ⟨w.heap.size, 2, none⟩ (.int .u64 r.c)).setCell ⟨w.heap.size, 3, none⟩ (.int .u64 r.d) = X at *
    have h3 := H2.out.keep kp (fun y e => by rw [show y = w.heap.size from e]; exact OFF2.out)
    refine leaves_cons (f := 93) (args := #[.pointer (some ⟨b, 0, none⟩)]) (by simp) (by simp [go_sem]) ?_
    refine (rclose_d c _ b _ _ _ .returning h3).mono ?_
    rintro e u' w9 ⟨rfl, rfl, G4, h4, s4⟩
    rw [HLV2.out.closes] at h4
    have hb9 := hb3.keep s4.keep OFF2.out.1
    have y0 : w9.cell? ⟨w.heap.size, 0, none⟩ = some (.int .u64 r.a) := hb9.at_ 0
    have y1 : w9.cell? ⟨w.heap.size, 1, none⟩ = some (.int .u64 r.b) := hb9.at_ 1
    have y2 : w9.cell? ⟨w.heap.size, 2, none⟩ = some (.int .u64 r.c) := hb9.at_ 2
    have y3 : w9.cell? ⟨w.heap.size, 3, none⟩ = some (.int .u64 r.d) := hb9.at_ 3
    refine ⟨.tuple #[.agg #[.int .u64 r.a, .int .u64 r.b, .int .u64 r.c, .int .u64 r.d], .bool true, .int .i64 0], by simp [results, Tryz.results78, go_sem, y0, y1, y2, y3], by rw [HLB.out], ?_⟩
    exact last_fin HH.out HG1.out HG2.out HCL.out HHH.out hj1 S1.out S2.out kp ⟨G4, h4, s4⟩
theorem size_plain (hF : 0 < c.K) (hL : L ≠ []) {x' : RdSt} {q' : Nat} (hv : RdLive c name kind L true x' q' L.reverse) (hq : q' + 1 = nblk c.K L.length ∨ q' = nblk c.K L.length) (hne : x'.list ≠ []) : (x'.blocks - 1) * c.K + x'.list.length = L.length := by
  have hr := hv.rm
  simp only [if_true] at hr
  have hlen := congrArg List.length hr
  simp only [List.length_reverse, List.length_append, List.length_take] at hlen
  have hb := hv.blocks
  have hpos : 0 < L.length := List.length_pos_iff.2 hL
  have hn : 0 < nblk c.K L.length := (nblk_lt hF).2 (by omega)
  have hend := nblk_end hF L.length
  have hlp : 0 < x'.list.length := List.length_pos_iff.2 hne
  rcases hq with e | e
  · have h1 : q' * c.K < L.length := (nblk_lt hF).1 (by omega)
    rw [hb, show ((nblk c.K L.length : Nat) : Int) - 1 = (q' : Nat) by omega]
    rw [Nat.min_eq_left (by omega)] at hlen
    rw [hlen, Int.natCast_add, Int.natCast_mul]
    omega
  · rw [e, Nat.min_eq_right hend] at hlen
    omega
set_option maxRecDepth 100000 in
set_option maxHeartbeats 2000000 in
theorem size_tape (h : RmAt c w G s) (t : TapeOn c fs name kind L) (hc : Calm s.D c.block fs) (hk : kind ≤ 5) (hcl : s.S.closed = false) (hh : 0 ≤ s.S.hand) (hf : (c.K : Int) ≤ s.S.limit - (s.S.hand + s.S.parts)) :
    Calls Tryz.prog 155 #[.pointer (some ⟨c.k, 0, none⟩), .string name, .int .i64 kind] w fun e w' => e = .returned (.tuple #[.int .i64 L.length, .int .i64 0]) ∧ WentTo c G 1 0 s w w' := by
  have hread := t.readable hc
  have hbl := h.blocks_len kind L
  have h40 := nblk_le40 h.posK t.le
  have hle := t.le
  have hposK := h.posK
  have hK := (fit_div h.fitK h.posK).2
  have hback := (tback_rm c _ G s name kind h (by rw [hread]; omega) (by rw [hread, hbl]; omega)).mono fun e w1 hp => hp.tape t hc ⟨t.kind.1, hk⟩ hcl hf
  have HB := Hid.intro_ hback
  have HH := Hid.intro_ h
  have HT := Hid.intro_ t
  have HC := Hid.intro_ hc
  have hlive := RdLive.fresh (c := c) name kind L true (blocksB kind L c.block).length h.posK hbl
  have HLV := Hid.intro_ hlive
  have hg1 := Went.take s hcl hf
  have HG1 := Hid.intro_ hg1
  have HHH := Hid.intro_ hh
  have HCL := Hid.intro_ hcl
  have HBL := Hid.intro_ hbl
  clear hback h t hc hlive hg1 hread hbl hf hk hh hcl
  go_enter_defers Tryz.func155, Tryz.ntmps155
  go_wp2_with fail
  refine HB.out.mono ?_
  rintro e w1 ⟨b, rfl, hb, G1, h1, s1⟩
  have hlv : RdLive c name kind L true _ (blocksB kind L c.block).length L.reverse := HLV.out
  have S1 := Hid.intro_ s1
  by_cases hL : L = []
  · have hld := load_none h1 hlv (by rw [hL]; rfl)
    have HLD := Hid.intro_ hld
    have HLV2 := Hid.intro_ hlv
    have H1 := Hid.intro_ h1
    have HL0 := Hid.intro_ (show L.length = 0 by rw [hL]; rfl)
    clear h1 hlv s1 hL hld hb
    go_wp2_with fail
    refine HLD.out.mono ?_
    rintro e w2 ⟨rfl, k2⟩
    have h2 := H1.out.nil k2
    have H2 := Hid.intro_ h2
    have K2 := Hid.intro_ k2
    clear h2 k2
    go_wp2_with fail
    refine leaves_cons (f := 93) (args := #[.pointer (some ⟨b, 0, none⟩)]) (by simp) (by simp [go_sem]) ?_
    refine (rclose_d c _ b _ _ _ .returning H2.out).mono ?_
    rintro e u' w9 ⟨rfl, rfl, G4, h4, s4⟩
    rw [HLV2.out.closes] at h4
    refine ⟨_, results_tmp2 rfl _ _ _, by rw [HL0.out]; rfl, ?_⟩
    exact size_fin HG1.out (Went.refl _) HCL.out HHH.out (by omega) S1.out (Stp.of_nil K2.out _) ⟨G4, h4, s4⟩
  · have hld := load_some h1 hlv HT.out HC.out (fun e => hL (by simpa using e))
    have HLD := Hid.intro_ hld
    have HL0 := Hid.intro_ hL
    have HHB := Hid.intro_ hb
    clear h1 hlv s1 hL hld hb
    go_wp2_with fail
    refine HLD.out.mono ?_
    rintro e w2 ⟨rfl, hq⟩
    obtain ⟨j, q', x2, hj1, hj, hlv2, hne2, G2, h2, s2⟩ := hq.out
    have hsz := size_plain hposK HL0.out hlv2 (by rw [← HBL.out]; omega) hne2
    obtain ⟨A, cap, _, hblk⟩ := h2.cells
    have c2 : w2.cell? ⟨b, 7, none⟩ = some (.int .i64 x2.blocks) := hblk.at_ 7
    have c0 : w2.cell? ⟨b, 0, none⟩ = some (.pointer (some ⟨c.k, 0, none⟩)) := hblk.at_ 0
    have c3 : w2.cell? ⟨b, 3, none⟩ = some (.slice A x2.list.length cap) := hblk.at_ 3
    obtain ⟨G0, hr2, _, _⟩ := h2.via
    have d2 : w2.cell? ⟨c.k, 2, none⟩ = some (.int .i64 c.K) := hr2.desk.at_ 2
    have H2 := Hid.intro_ h2
    have S2 := Hid.intro_ s2
    have HLV2 := Hid.intro_ hlv2
    have HG2 := Hid.intro_ (show Went j 0 { s with S := s.S.take c.K } { s with D := s.D.readsN j, S := s.S.take c.K } from ⟨rfl, rfl, rfl, by simp, rfl, rfl, rfl⟩)
    have hbb := hlv2.blocks
    have w1' : IntKind.i64.wrap (x2.blocks - 1) = x2.blocks - 1 := IntWalk.i64_in _ (by omega)
    have hmul : 0 ≤ (x2.blocks - 1) * (c.K : Int) ∧ (x2.blocks - 1) * (c.K : Int) ≤ 1099511627776 := by
      constructor
      · have hn1 : 0 < nblk c.K L.length := (nblk_lt hposK).2 (by have := List.length_pos_iff.2 HL0.out; omega)
        exact Int.mul_nonneg (by omega) (by omega)
      · omega
    have hw : wrap64 (wrap64 ((((nblk c.K L.length : Nat) : Int) - 1) * (c.K : Int)) + (x2.list.length : Int)) = (L.length : Int) := by
      rw [hbb] at hmul hsz
      generalize (((nblk c.K L.length : Nat) : Int) - 1) * (c.K : Int) = m at *
      unfold wrap64
      omega
    have HW := Hid.intro_ hw
    have HJ1 := Hid.intro_ hj1
    clear h2 s2 hlv2 hr2 hblk hq hne2 hw hmul hsz hj hj1 w1'
    go_wp2_with fail
    go_quiet (fail)
    go_wp2_with fail
    have h3 := H2.out.nil ((Keep.refl Nil w2).drewN nq)
    refine leaves_cons (f := 93) (args := #[.pointer (some ⟨b, 0, none⟩)]) (by simp) (by simp [go_sem]) ?_
    refine (rclose_d c _ b _ _ _ .returning h3).mono ?_
    rintro e u' w9 ⟨rfl, rfl, G4, h4, s4⟩
    rw [HLV2.out.closes] at h4
    refine ⟨.tuple #[.int .i64 L.length, .int .i64 0], ?_, rfl, ?_⟩
    · refine (results_tmp2 rfl _ _ _).trans ?_
      show Result.ok (Value.tuple #[.int .i64 (wrap64 (wrap64 ((((nblk c.K L.length : Nat) : Int) - 1) * (c.K : Int)) + (x2.list.length : Int))), .int .i64 0]) _ = _
      rw [HW.out]
    · exact size_fin HG1.out HG2.out HCL.out HHH.out HJ1.out S1.out (S2.out.then_nil ((Keep.refl Nil w2).drewN nq)) ⟨G4, h4, s4⟩
end
end Go.Proofs.YtadipinnbehhhaaGreatDoor
