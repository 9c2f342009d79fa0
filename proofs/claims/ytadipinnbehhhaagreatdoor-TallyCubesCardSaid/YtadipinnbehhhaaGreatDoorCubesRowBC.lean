/- Parts of the proof: CubC PassL. -/
import Derived.Shelf.Abstract
import Derived.Shelf.RegionOpen
import Derived.OwnWalkIn
import Derived.TacticsInMore
import Derived.RangeFuncRecord
import Derived.Test.YtadipinnbehhhaaGreatDoorCubesRowBB
import Derived.Test.YtadipinnbehhhaaGreatDoorCubesRowAS
namespace Go.Proofs.YtadipinnbehhhaaGreatDoor
open Go.RowKit

section
variable {X : KX} {pb : Nat} {o : Option (Nat × List Int)} {w w' : World} {G G' : Nat → Prop} {s s' : RSt} {j : Nat} {h : Int} {fs : List (ByteArray × AFile)} {cu : Value} {root : Nat} {F Z Z' : Nat → Prop}
set_option maxRecDepth 100000 in
set_option maxHeartbeats 1000000 in
theorem pend_open_d (u : FrameMode) (P : PxOk X fs) (p : PsOpen X Z pb o w) : CallsD Tryz.prog 178 #[.pointer (some ⟨pb, 0, none⟩)] u w fun e u' w' => u' = u ∧ (e = .returned (.tuple #[]) ∧ PsShut X Z pb o w' ∧ Keep (fun z => ¬ Z z) w w') := by
  obtain ⟨G, s, j, cb, b, x, y, q, rem, h1, h2, h3, h4, h5⟩ := p.out
  obtain ⟨tv, b1, ho, hy, ht⟩ := h5.out
  have c2 : w.cell? ⟨pb, 2, none⟩ = some (.pointer (some ⟨cb, 0, none⟩)) := b1.at_ 2
  have HC := Hid.intro_ (curclose h2 h3 h4 (by rw [h1.went.closed]; exact P.P.opn) (by rw [h1.went.hand, P.P.hand]; omega))
  have H1 := Hid.intro_ h1
  have HT := Hid.intro_ ht
  have HO := Hid.intro_ ho
  have HY := Hid.intro_ hy
  have HB := Hid.intro_ b1
  have HZ := Hid.intro_ h5.za
  obtain ⟨r, hr⟩ : ∃ r, r = X.d.r := ⟨_, rfl⟩
  clear p P h1 h2 h3 h4 h5 b1 ho hy ht
  go_enter_d Tryz.func178, Tryz.ntmps178
  go_wp2_with fail
  refine HC.out.mono ?_
  rintro e w2 ⟨rfl, s2, G2, hw, hr2, st⟩
  have b2 := HB.out.keep st.keep HO.out.1
  have c22 : w2.cell? ⟨pb, 2, none⟩ = some (.pointer (some ⟨cb, 0, none⟩)) := b2.at_ 2
  have f22 := b2.fr 2
  have HB2 := Hid.intro_ b2
  have HW := Hid.intro_ hw
  have HR2 := Hid.intro_ hr2
  have ST := Hid.intro_ st
  clear hw hr2 st b2
  go_wp2_with fail
  go_end0
  have kx : Keep (fun z => z = pb) w2 (w2.setCell ⟨pb, 2, none⟩ (.pointer none)) := (Keep.refl (fun z => z = pb) w2).setCell (p := ⟨pb, 2, none⟩) (fun _ => rfl) _
  have ho2 : Off X.c.E G2 pb := HO.out.step HB.out.lt ST.out
  refine ⟨rfl, ⟨G2, s2, 0 + j, X.d.r, ?_, ?_, ⟨tv, ?_, ho2, HY.out, ?_⟩, (HZ.out.step ST.out).keep kx⟩, (HZ.out.keeps ST.out.keep).then_ ((HZ.out.step ST.out).keepb kx)⟩
  · have := (H1.out.step ST.out HW.out).own kx (fun z hz => by rw [show z = pb from hz]; exact HY.out)
    rw [Int.add_right_neg] at this
    exact this
  · exact HR2.out.beside kx (fun z hz => by rw [show z = pb from hz]; exact ho2)
  · exact HB2.out.set_ 2 _
  · refine (HT.out.step ST.out).keep kx (fun z hz _ tb t e => ?_) (fun _ h _ => h)
    rw [show z = pb from hz]
    exact fun e2 => (HT.out.yes tb t e).2.2.2.2.2.2 e2.symm
structure ItP (X : KX) (J Jx : Nat → World → Prop) (e : Ending) (w' : World) : Prop where mk ::
  ret : ∃ v, e = .returned v
  room : ∃ G s j, KStp X w' G s j 0 ∧ RmAt X.c w' G s
  way : J X.d.cubes.length w' ∨ ∃ i c, X.d.cubes[i]? = some c ∧ Jx i w'
def ItS (X : KX) (pb i : Nat) (W : World) : Prop := (i = 0 ∧ PsShut X X.H pb none W) ∨ (∃ i' tb c, i = i' + 1 ∧ X.d.cubes[i']? = some c ∧ PsOpen X X.H pb (some (tb, c)) W)
theorem its_next (P : PxOk X fs) {i : Nat} (hs : ItS X pb i w) :
    (∀ c, X.d.cubes[i]? = some c → Calls Tryz.prog 179 #[.pointer (some ⟨pb, 0, none⟩)] w fun e w' => e = .returned (.bool true) ∧ (∃ tn, PsOpen X X.H pb (some (tn, c)) w') ∧ Keep (fun z => ¬ X.H z) w w') ∧
    (X.d.cubes[i]? = none → Calls Tryz.prog 179 #[.pointer (some ⟨pb, 0, none⟩)] w fun e w' => e = .returned (.bool false) ∧ (∃ o, PsOpen X X.H pb o w') ∧ Keep (fun z => ¬ X.H z) w w') := by
  rcases hs with ⟨rfl, hsh⟩ | ⟨i', tb, c0, rfl, hc0, hop⟩
  · by_cases hr : X.d.r = 9223372036854775808
    · have e0 := DgOk.none_c hr
      refine ⟨fun c hc => by rw [e0] at hc; simp at hc, fun _ => (pnext_none P hsh hr).mono fun e w' ⟨a, ⟨tn, t, b⟩, k⟩ => ⟨a, ⟨_, b⟩, k⟩⟩
    · have e0 := P.P.ok.first_c hr
      refine ⟨fun c hc => ?_, fun hn => by rw [e0] at hn; cases hn⟩
      rw [e0] at hc
      injection hc with hc
      subst hc
      exact pnext_first P hsh hr
  · exact ⟨fun c hc => pnext_go P hop hc0 hc, fun hn => (pnext_over P hop hc0 hn).mono fun e w' ⟨a, b, k⟩ => ⟨a, ⟨_, b⟩, k⟩⟩
set_option maxRecDepth 100000 in
set_option maxHeartbeats 16000000 in
theorem cubes_clo (P : PxOk X fs) (l m kb fb : Nat) (J Jx : Nat → World → Prop) (hr : RmAt X.c X.Y X.G0 X.s0) (hH : ∀ z, X.H z → ¬ X.G0 z) (hJ : ∀ i W W', J i W → Keep (fun z => ¬ X.H z) W W' → J i W') (hJx : ∀ i W W', Jx i W → Keep (fun z => ¬ X.H z) W W' → Jx i W')
    (hk : Blk X.Y kb 33 #[.pointer (some ⟨X.c.k, 0, none⟩)]) (hf : Blk X.Y fb 9 #[.string X.name]) (h0 : J 0 X.Y)
    (hY : ∀ pb i c tn W, X.d.cubes[i]? = some c → PsOpen X X.H pb (some (tn, c)) W → J i W → YieldAt Fence.wide m Tryz.prog l #[strV c, .int .i64 0] W fun e W' => PsOpen X X.H pb (some (tn, c)) W' ∧ ((e = .returned (.bool true) ∧ J (i + 1) W') ∨ (e = .returned (.bool false) ∧ Jx i W'))) :
    Calls Tryz.prog 177 #[.func (.yield l) #[] #[], .pointer (some ⟨kb, 0, none⟩), .pointer (some ⟨fb, 0, none⟩)] X.Y (ItP X J Jx) := by
  obtain ⟨w, hw⟩ : ∃ w, w = X.Y := ⟨_, rfl⟩
  obtain ⟨W1, hW1⟩ : ∃ W1, W1 = w.alloc (.cells #[.pointer (some ⟨X.c.k, 0, none⟩), .string X.name, .pointer none, .int .u64 0, .slice none 0 0, .int .i64 0] 286) := ⟨_, rfl⟩
  have k1 : Keep Nil w W1 := by rw [hW1]; exact (Keep.refl Nil w).alloc _
  have b1 : Blk W1 w.heap.size 286 (pthV X.c X.name (.pointer none) 0 (.slice none 0 0)) := by rw [hW1]; exact Blk.new w _ _
  rw [← hw] at hr hk hf h0
  have hsh : PsShut X X.H w.heap.size none W1 := by
    have hHl : ∀ z, X.H z → z < w.heap.size := fun z hz => by rw [hw]; exact P.HY z hz
    refine ⟨X.G0, X.s0, 0, 0, ⟨by rw [← hw]; exact k1.mono (fun _ _ h => h.elim), fun z hz => .inl hz, Went.refl _, fun z hz => ⟨hH z hz, P.HY z hz⟩⟩, hr.nil k1, ⟨_, b1, Off.new hr.env hr.lt (Nat.le_refl _), by rw [hw]; exact Nat.le_refl _, ⟨fun _ => rfl, fun tb t e => by cases e⟩⟩, ⟨fun z hz => ?_, fun z hz tb t e => by cases e⟩⟩
    have := hHl z hz
    have := k1.size
    exact ⟨hH z hz, by omega, by omega⟩
  have c0 : w.cell? ⟨kb, 0, none⟩ = some (.pointer (some ⟨X.c.k, 0, none⟩)) := hk.at_ 0
  have c1 : w.cell? ⟨fb, 0, none⟩ = some (.string X.name) := hf.at_ 0
  have HP := Hid.intro_ P
  have HYD := Hid.intro_ hY
  have HJ := Hid.intro_ hJ
  have HJX := Hid.intro_ hJx
  have HS := Hid.intro_ (show ItS X w.heap.size 0 W1 from .inl ⟨rfl, hsh⟩)
  have HJ0 := Hid.intro_ (hJ 0 w W1 h0 (k1.mono (fun _ _ h => h.elim)))
  obtain ⟨N, hN⟩ : ∃ N, N = X.d.cubes.length := ⟨_, rfl⟩
  have HN := Hid.intro_ hN
  rw [← hw]
  clear P hY hJ hJx hr hH hk hf h0 hsh hw k1 b1 hN
  go_enter_defers Tryz.func177, Tryz.ntmps177
  go_wp2_with fail
  rw [← hW1]
  clear hW1
  obtain ⟨pb, hpb⟩ : ∃ pb, pb = w.heap.size := ⟨_, rfl⟩
  rw [← hpb] at HS ⊢
  clear hpb
  go_loopg [] (N + 1) (fun gk wr => ∃ (i : Nat), i ≤ N ∧ gk = N - i + 1 ∧ Hid (ItS X pb i wr) ∧ Hid (J i wr))
  case atStart => exact ⟨0, Nat.zero_le _, by omega, HS, HJ0⟩
  case round =>
    obtain ⟨i, hiN, hgk, HIS, HJI⟩ := hrel
    have HGK := Hid.intro_ hgk
    clear hgk
    obtain ⟨hn1, hn2⟩ := its_next HP.out HIS.out
    by_cases hlt : i < N
    · obtain ⟨c, hc⟩ : ∃ c, X.d.cubes[i]? = some c := ⟨_, List.getElem?_eq_getElem (by have := HN.out; omega)⟩
      have HNX := Hid.intro_ (hn1 c hc)
      have HC := Hid.intro_ hc
      clear hn1 hn2 hc
      go_wp2_with fail
      refine HNX.out.mono ?_
      rintro e w2 ⟨rfl, ⟨tn, hpo⟩, k2⟩
      obtain ⟨cb, tv, b2, htx⟩ := hpo.cells
      obtain ⟨q1, q2, q3, q4, q5, q6, q7⟩ := htx tn c rfl
      subst q1
      obtain ⟨v, hv⟩ : ∃ v, v = X.d.v := ⟨_, rfl⟩
      have c4 : w2.cell? ⟨pb, 4, none⟩ = some (.slice (some ⟨tn, 0, none⟩) v v) := by rw [hv]; exact b2.at_ 4
      have cv : (convert 161 9 (.slice (some ⟨tn, 0, none⟩) v v)).run Tryz.prog w2 = .ok (.string ⟨(toB c).toArray⟩) w2 := by
        have := conv_str w2 ⟨tn, 0, none⟩ v c q2.rd q4.u8
        rw [q3, ← hv] at this
        exact this
      obtain ⟨fn, tmps, assign, body, hy, hR⟩ := HYD.out pb i c tn w2 HC.out hpo (HJ.out i _ _ HJI.out k2)
      unfold strV at hy
      have HRR := Hid.intro_ hR
      clear hpo k2 b2 htx q2 q3 q4 q5 q6 q7 hv hR HNX
      go_upto_region 3 with (fail)
      refine (wpIn_wide (n := m + 1)).1 ?_
      gi_wp2
      refine HRR.out.mono ?_
      rintro e W3 ⟨hpo, (⟨rfl, hJ1⟩ | ⟨rfl, hJ1⟩)⟩
      · have HS3 := Hid.intro_ (show ItS X pb (i + 1) W3 from .inr ⟨i, tn, c, rfl, HC.out, hpo⟩)
        have HJ3 := Hid.intro_ hJ1
        clear hpo hJ1 HRR
        gi_wp2
        go_wp2_with fail
        go_roundg (N - (i + 1) + 1)
        case measure => have := HGK.out; omega
        case rel => exact ⟨i + 1, by omega, rfl, HS3, HJ3⟩
      · have HEND := Hid.intro_ (pend_open_d .returning HP.out hpo)
        have HJ3 := Hid.intro_ hJ1
        clear hpo hJ1 HRR
        gi_wp2
        go_wp2_with fail
        refine leaves_cons (f := 178) (args := #[.pointer (some ⟨pb, 0, none⟩)]) (by simp) (by simp [go_sem]) ?_
        refine HEND.out.mono ?_
        rintro e u' w9 ⟨rfl, rfl, hsh, k9⟩
        obtain ⟨G, s, j, root, h1, h2, h3⟩ := hsh.out
        exact ⟨.tuple #[], by simp [results, Tryz.results177, go_sem], ItP.mk ⟨_, rfl⟩ ⟨G, s, j, h1, h2⟩ (.inr ⟨i, c, HC.out, HJX.out i _ _ HJ3.out k9⟩)⟩
    · have hNL := HN.out
      have hi : i = N := by omega
      have HNX := Hid.intro_ (hn2 (List.getElem?_eq_none (by omega)))
      clear hn1 hn2 hNL
      go_wp2_with fail
      refine HNX.out.mono ?_
      rintro e w2 ⟨rfl, ⟨o, hpo⟩, k2⟩
      have HJ3 := Hid.intro_ (HJ.out i _ _ HJI.out k2)
      obtain ⟨cb, tv, b2, htx⟩ := hpo.cells
      have c5 : w2.cell? ⟨pb, 5, none⟩ = some (.int .i64 0) := b2.at_ 5
      have HEND := Hid.intro_ (pend_open_d .returning HP.out hpo)
      clear hpo k2 b2 htx HNX
      go_wp2_with fail
      refine leaves_cons (f := 178) (args := #[.pointer (some ⟨pb, 0, none⟩)]) (by simp) (by simp [go_sem]) ?_
      refine HEND.out.mono ?_
      rintro e u' w9 ⟨rfl, rfl, hsh, k9⟩
      obtain ⟨G, s, j, root, h1, h2, h3⟩ := hsh.out
      exact ⟨.tuple #[], by simp [results, Tryz.results177, go_sem], ItP.mk ⟨_, rfl⟩ ⟨G, s, j, h1, h2⟩ (.inl (by rw [← HN.out, ← hi]; exact HJ.out i _ _ HJ3.out k9))⟩
end
end Go.Proofs.YtadipinnbehhhaaGreatDoor
namespace Go.Proofs.YtadipinnbehhhaaGreatDoor
open Go.RowKit

section
variable {X : KX} {pb : Nat} {o : Option (Nat × List Int)} {w w' : World} {G G' : Nat → Prop} {s s' : RSt} {j : Nat} {h : Int} {fs : List (ByteArray × AFile)} {F Z Z' : Nat → Prop}
theorem PsOpen.aside (p : PsOpen X Z pb o w) (k : Keep X.H w w') (hH : ∀ z, X.H z → z < X.Y.heap.size) (hE : ∀ z, X.H z → Off X.c.E (fun _ => False) z) : PsOpen X Z pb o w' := by
  obtain ⟨G, s, j, cb, b, x, y, q, rem, h1, h2, h3, h4, h5⟩ := p.out
  exact ⟨G, s, j, cb, b, x, y, q, rem, h1.aside k, h2.keep k (fun z hz => ⟨(h1.off z hz).1, (hE z hz).2⟩), h3, h4, h5.aside k hH⟩
theorem PsOpen.used (P : PxOk X fs) (p : PsOpen X Z pb o w) : Calls Tryz.prog 64 #[.pointer (some ⟨X.c.p, 0, none⟩)] w fun e w' => e = .returned (.int .i64 X.c.K) ∧ PsOpen X Z pb o w' ∧ Keep (fun z => ¬ Z z) w w' := by
  obtain ⟨G, s, j, cb, b, x, y, q, rem, h1, h2, h3, h4, h5⟩ := p.out
  obtain ⟨G0, hr, hs, hv⟩ := h2.rm
  have e1 : s.S.hand + s.S.parts = X.c.K := by rw [h1.went.hand, h1.went.parts, P.P.hand, P.P.parts]; omega
  refine (used_rm hr).mono fun e w' ⟨he, ht⟩ => ?_
  obtain ⟨G2, h2', st⟩ := hv _ _ ht
  refine ⟨by rw [he, e1], ⟨G2, s, 0 + j, cb, b, x, y, q, rem, ?_, h2', h3, h4, h5.step st⟩, h5.za.keeps st.keep⟩
  have := h1.step st (Went.refl s)
  rw [Int.add_zero] at this
  exact this
theorem PsOpen.K (p : PsOpen X Z pb o w) : Calls Tryz.prog 61 #[.pointer (some ⟨X.c.k, 0, none⟩)] w fun e w' => e = .returned (.int .i64 X.c.K) ∧ w' = w := by
  obtain ⟨G, s, j, cb, b, x, y, q, rem, h1, h2, h3, h4, h5⟩ := p.out
  obtain ⟨G0, hr, hs, hv⟩ := h2.rm
  exact room_k hr
theorem PsOpen.keep (p : PsOpen X Z pb o w) : Keep (fun z => X.G0 z ∨ X.H z) X.Y w := by
  obtain ⟨G, s, j, cb, b, x, y, q, rem, h1, h2, h3, h4, h5⟩ := p.out
  exact h1.keep
end

section
variable {c : Cx} {d : Dg} {fs : List (ByteArray × AFile)} {nm : ByteArray} {s0 s' : RSt} {G0 : Nat → Prop} {w w' : World} {j : Nat}
theorem AkP.went (P : AkP c fs nm d s0) (h : Went j 0 s0 s') : AkP c fs nm d s' :=
  ⟨P.tape, h.calm P.calm, P.ok, h.closed.trans P.opn, by rw [h.hand, P.hand]; rfl, h.parts.trans P.parts, by rw [h.limit]; exact P.lim, P.K9⟩
structure Rnd (c : Cx) (G0 : Nat → Prop) (w : World) (ib l : Nat) (Pj : World → Prop) : Prop where
  used : ∀ W, Pj W → Calls Tryz.prog 64 #[.pointer (some ⟨c.p, 0, none⟩)] W fun e w' => e = .returned (.int .i64 c.K) ∧ Pj w' ∧ Keep (fun z => ¬ (z = ib ∨ z = l)) W w'
  kk : ∀ W, Pj W → Calls Tryz.prog 61 #[.pointer (some ⟨c.k, 0, none⟩)] W fun e w' => e = .returned (.int .i64 c.K) ∧ w' = W
  turn : ∀ W W', Pj W → Keep (fun z => z = ib) W W' → Pj W'
  keep : ∀ W, Pj W → Keep (fun z => G0 z ∨ z = ib) w W
  ge : w.heap.size ≤ l
def rndPost (Pj : World → Prop) (ib l i stop : Nat) (W : World) : Exit → Act → World → Prop
  | .normal, _, W' => ¬ i = stop ∧ Pj W' ∧ Blk W' ib 3 #[.int .i64 ((i + 1 : Nat) : Int)] ∧ Keep (fun z => ¬ z = l) W W'
  | .exit id, _, W' => (id = 2 ∧ i = stop) ∧ Pj W' ∧ Blk W' ib 3 #[.int .i64 (i : Int)] ∧ Keep (fun z => ¬ z = l) W W'
  | _, _, _ => False
structure RngTo (c : Cx) (G0 : Nat → Prop) (s0 : RSt) (ib k D : Nat) (w W : World) : Prop where mk ::
  room : ∃ G s j, Went j 0 s0 s ∧ RmAt c W G s ∧ ¬ G D ∧ (∀ z, G z → G0 z ∨ w.heap.size ≤ z)
  keep : Keep (fun z => G0 z ∨ z = ib) w W
  box : Blk W ib 3 #[.int .i64 (k : Int)]
  dfr : W.heap[D]? = some (.deferred (some []))
  ge : w.heap.size ≤ D
theorem Keep.put {F : Nat → Prop} (k : Keep F w w') {l : Nat} (hl : l < w.heap.size → F l) (o : Obj) : Keep F w (w'.putObj l o) :=
  ⟨k.os, k.tape, k.output, by rw [World.putObj_size]; exact k.size, fun z hz hn => (World.putObj_heap_other (fun e => by subst e; exact hn (hl hz))).trans (k.same z hz hn)⟩
theorem range_cubes {g : Operand} {ps : Array Tmp} {assign body : Code} {Q : Exit → Act → World → Prop} {a : Act} {n ib kb fb stop : Nat} (P : AkP c fs nm d s0) (hr : RmAt c w G0 s0)
    (hg : a.eval g = .func (.func 177) #[] #[.pointer (some ⟨kb, 0, none⟩), .pointer (some ⟨fb, 0, none⟩)])
    (hk : Blk w kb 33 #[.pointer (some ⟨c.k, 0, none⟩)]) (hf : Blk w fb 9 #[.string nm]) (hib : Off c.E G0 ib) (hps : ps.size = 2)
    (h0 : Blk w ib 3 #[.int .i64 0]) (a₁ : List Int → Act)
    (hassign : ∀ (l : Nat) (t : List Int) (W : World) (K : Act → World → Prop), K (a₁ t) W →
      assign.wpIn (Fence.wide.inRound l) n Tryz.prog (Exit.then K (fun _ _ _ => False)) { tmps := (ps.zip #[strV t, .int .i64 0]).foldl (fun u (p, v) => u.setIfInBounds p v) a.tmps, defers := [] } W)
    (hbody : ∀ (Pj : World → Prop) (l i : Nat) (t : List Int) (W : World), Rnd c G0 w ib l Pj → Pj W → Blk W ib 3 #[.int .i64 (i : Int)] → d.cubes[i]? = some t → i ≤ stop →
      body.wpIn (Fence.wide.inRound l) n Tryz.prog (rndPost Pj ib l i stop W) (a₁ t) W)
    (hdone : ∀ (D : Nat) (W : World), d.cubes.length ≤ stop → RngTo c G0 s0 ib d.cubes.length D w W → Q .normal { a with defers := { target := .collected D, args := #[] } :: a.defers } W)
    (hstop : ∀ (D : Nat) (W : World), stop < d.cubes.length → RngTo c G0 s0 ib stop D w W → Q (.exit 2) { a with defers := { target := .collected D, args := #[] } :: a.defers } W) :
    (Code.rangeFunc g ps assign body).wpIn Fence.wide (n + 1) Tryz.prog Q a w := by
  refine wpIn_rangeFunc ?_
  intro fn hfn
  obtain ⟨rec, hrec⟩ : ∃ rec : LoopState → Option Code → Loop, rec = fun st pe => { state := st, pending := pe, fn, tmps := a.tmps, params := ps, assign, body, defers := w.heap.size } := ⟨_, rfl⟩
  obtain ⟨W1, hW1⟩ : ∃ W1, (w.alloc (.deferred (some []))).alloc (.loop (rec .ready none)) = W1 := ⟨_, rfl⟩
  have k1 : Keep Nil w W1 := by rw [← hW1]; exact ((Keep.refl Nil w).alloc _).alloc _
  have hsz : W1.heap.size = w.heap.size + 2 := by rw [← hW1]; simp
  have hL1 : W1.heap[w.heap.size + 1]? = some (.loop (rec .ready none)) := by
    rw [← hW1]; have := World.alloc_heap_new (w.alloc (.deferred (some []))) (.loop (rec .ready none)); rwa [World.size_alloc] at this
  have hK1 : W1.heap[w.heap.size]? = some (.deferred (some [])) := by
    rw [← hW1]; exact (Below.heap_alloc _ _ _ (by simp)).trans (World.alloc_heap_new w _)
  have hG0 : ∀ z, G0 z → z < w.heap.size := hr.lt
  have hibl : ib < w.heap.size := h0.lt
  have hnl : Off c.E G0 (w.heap.size + 1) := Off.new hr.env hr.lt (by omega)
  obtain ⟨X, hX⟩ : ∃ X : KX, X = { c := c, name := nm, L := recsD d, up := true, d := d, P := [], tl := [], cb := 0, b := 0, G0 := G0, s0 := s0, H := fun z => z = ib ∨ z = w.heap.size + 1, Y := W1, Q := 0 } := ⟨_, rfl⟩
  have eH : X.H = fun z => z = ib ∨ z = w.heap.size + 1 := by rw [hX]
  have eY : X.Y = W1 := by rw [hX]
  have eG : X.G0 = G0 := by rw [hX]
  have ec : X.c = c := by rw [hX]
  have ed : X.d = d := by rw [hX]
  have es : X.s0 = s0 := by rw [hX]
  have en : X.name = nm := by rw [hX]
  have hXo : PxOk X fs := ⟨by rw [hX]; exact P, by rw [hX], fun z hz => by rw [eH] at hz; rw [eY]; rcases hz with rfl | rfl <;> omega⟩
  have hHE : ∀ z, X.H z → Off X.c.E (fun _ => False) z := fun z hz => by
    rw [eH] at hz
    rw [ec]
    rcases hz with rfl | rfl
    · exact ⟨fun h => h, hib.2⟩
    · exact ⟨fun h => h, hnl.2⟩
  have hHG : ∀ z, X.H z → ¬ X.G0 z := fun z hz => by
    rw [eH] at hz
    rw [eG]
    rcases hz with rfl | rfl
    · exact hib.1
    · exact hnl.1
  have lo : ∀ W, Keep (fun z => G0 z ∨ z = ib ∨ z = w.heap.size + 1) W1 W → Keep (fun z => G0 z ∨ z = ib) w W := fun W k =>
    (k1.mono (G := fun z => G0 z ∨ z = ib) (fun _ _ h => h.elim)).trans k (fun z hz h => by
      rcases h with h | h | h
      · exact .inl h
      · exact .inr h
      · omega)
  refine ⟨w.heap.size + 1, [{ target := .collected w.heap.size, args := #[] }], W1, { target := .fn (.func 177) #[.pointer (some ⟨kb, 0, none⟩), .pointer (some ⟨fb, 0, none⟩)], args := #[.func (.yield (w.heap.size + 1)) #[] #[]] }, W1, 177,
    #[.func (.yield (w.heap.size + 1)) #[] #[], .pointer (some ⟨kb, 0, none⟩), .pointer (some ⟨fb, 0, none⟩)], W1, ?_, ?_, fun _ _ => trivial, ?_, (fun _ => Nat.le_add_left 1 n), callsIn_wide.2 ?_⟩
  · rw [← hW1, hrec]; exact run_enterLoop_outer _ _ _ _ _
  · simp only [resolve, hg]
    simp [go_sem]
  · simp [invoke, go_sem]
  have hres := cubes_clo (X := X) hXo (w.heap.size + 1) n kb fb
    (fun i W => i ≤ stop ∧ Blk W ib 3 #[.int .i64 (i : Int)] ∧ W.heap[w.heap.size + 1]? = some (.loop (rec .ready none)))
    (fun i W => i = stop ∧ Blk W ib 3 #[.int .i64 (i : Int)] ∧ W.heap[w.heap.size + 1]? = some (.loop (rec .done (some (.exit 2)))))
    (by rw [eY, ec, eG, es]; exact hr.nil k1) hHG
    (fun i W W' ⟨hs, hb, hl⟩ k => ⟨hs, hb.keep k (fun hn => hn (by rw [eH]; exact .inl rfl)), (k.same _ (lt_of_heap hl) (fun hn => hn (by rw [eH]; exact .inr rfl))).trans hl⟩)
    (fun i W W' ⟨hs, hb, hl⟩ k => ⟨hs, hb.keep k (fun hn => hn (by rw [eH]; exact .inl rfl)), (k.same _ (lt_of_heap hl) (fun hn => hn (by rw [eH]; exact .inr rfl))).trans hl⟩)
    (by rw [eY, ec]; exact hk.keep k1 (fun h => h)) (by rw [eY, en]; exact hf.keep k1 (fun h => h))
    (by rw [eY]; exact ⟨Nat.zero_le _, h0.keep k1 (fun h => h), hL1⟩) ?_
  · rw [eY] at hres
    refine hres.mono ?_
    rintro e W9 hI
    obtain ⟨v, rfl⟩ := hI.ret
    obtain ⟨G, s, j, hks, hrm⟩ := hI.room
    have hkp := hks.keep
    have hgr := hks.grow
    have hwe := hks.went
    rw [eG, eH, eY] at hkp
    rw [eG, eY] at hgr
    rw [es] at hwe
    rw [ec] at hrm
    have hD9 : W9.heap[w.heap.size]? = some (.deferred (some [])) := (hkp.same _ (by omega) (fun hz => by
      rcases hz with hz | hz | hz
      · have := hG0 _ hz; omega
      · omega
      · omega)).trans hK1
    have hGD : ¬ G w.heap.size := fun hz => by
      rcases hgr _ hz with hz | hz
      · have := hG0 _ hz; omega
      · omega
    have hoffl : Off c.E G (w.heap.size + 1) := ⟨fun hz => (hks.off _ (by rw [eH]; exact .inr rfl)).1 hz, hnl.2⟩
    have fin : ∀ (k : Nat) (o : Obj), Blk W9 ib 3 #[.int .i64 (k : Int)] → RngTo c G0 s0 ib k w.heap.size w (W9.putObj (w.heap.size + 1) o) := fun k o hb => by
      have kp : Keep (fun z => z = w.heap.size + 1) W9 (W9.putObj (w.heap.size + 1) o) := Keep.put (F := fun z => z = w.heap.size + 1) (Keep.refl _ W9) (fun _ => rfl) o
      have hrb := RmAt.beside (X := X) (by rw [ec]; exact hrm) kp (fun z e => by rw [show z = _ from e, ec]; exact hoffl)
      rw [ec] at hrb
      refine ⟨⟨G, s, j, hwe, hrb, hGD, fun z hz => ?_⟩, ?_, hb.keep kp (fun e => by have e' : ib = w.heap.size + 1 := e; omega), (kp.same _ (lt_of_heap hD9) (fun e => by have e' : w.heap.size = w.heap.size + 1 := e; omega)).trans hD9, Nat.le_refl _⟩
      · rcases hgr _ hz with hz | hz
        · exact .inl hz
        · exact .inr (by omega)
      · exact lo _ (hkp.then_ (kp.mono (fun z _ e => .inr (.inr e))))
    rcases hI.way with ⟨hs, hb, hl⟩ | ⟨i, t, hit, rfl, hb, hl⟩
    · rw [ed] at hb hs
      refine ⟨none, W9.putObj (w.heap.size + 1) (.loop (rec .exhausted none)), ?_, hdone _ _ hs (fin _ _ hb)⟩
      have := run_endLoop (P := Tryz.prog) hl (by rw [hrec]; simp)
      rw [hrec] at this ⊢
      exact this
    · rw [ed] at hit
      refine ⟨some (.exit 2), W9.putObj (w.heap.size + 1) (.loop (rec .exhausted (some (.exit 2)))), ?_, ?_⟩
      · have := run_endLoop (P := Tryz.prog) hl (by rw [hrec]; simp)
        rw [hrec] at this ⊢
        exact this
      · have hlt : i < d.cubes.length := (List.getElem?_eq_some_iff.1 hit).1
        exact wpIn_exit (hstop _ _ hlt (fin _ _ hb))
  · intro pb i t tn W hit hpo ⟨his, hb, hl⟩
    rw [ed] at hit
    have hll := lt_of_heap hl
    have hHS : ∀ z, X.H z → z < X.Y.heap.size := hXo.HY
    have kl : ∀ W o, Keep X.H W (W.putObj (w.heap.size + 1) o) := fun W o => (Keep.refl _ W).put (fun _ => by rw [eH]; exact .inr rfl) o
    have hR : Rnd c G0 w ib (w.heap.size + 1) (fun W => PsOpen X X.H pb (some (tn, t)) W) := by
      refine ⟨fun W h => ?_, fun W h => ?_, fun W W' h k => h.aside (k.mono (fun z _ e => by rw [eH]; exact .inl e)) hHS hHE, fun W h => ?_, by omega⟩
      · have := h.used hXo
        rw [ec, eH] at this
        rw [eH]
        exact this
      · have := h.K
        rw [ec] at this
        exact this
      · have := h.keep
        rw [eY, eG, eH] at this
        exact lo _ this
    have hy := run_yield (P := Tryz.prog) (args := #[strV t, .int .i64 0]) hl (by rw [hrec]; exact hps.symm)
    rw [hrec] at hy
    refine ⟨fn, _, assign, body, hy, roundIn_of_wpIn hfn (hassign _ t W _ ⟨_, run_beginRound hl (by rw [hrec]), ?_⟩)⟩
    clear hy
    have hb2 : Blk (W.putObj (w.heap.size + 1) (.loop { rec .ready none with state := .busy })) ib 3 #[.int .i64 (i : Int)] := hb.of_heap (World.putObj_heap_other (by omega))
    have hl2 : (W.putObj (w.heap.size + 1) (.loop { rec .ready none with state := .busy })).heap[w.heap.size + 1]? = some (.loop { rec .ready none with state := .busy }) := World.putObj_heap_same hll
    refine wpIn_mono (hbody _ _ i t _ hR (hpo.aside (kl _ _) hHS hHE) hb2 hit his) ?_
    have fin : ∀ (jump : Option Code) (W3 : World), Keep (fun z => ¬ z = w.heap.size + 1) (W.putObj (w.heap.size + 1) (.loop { rec .ready none with state := .busy })) W3 →
        (Instr.endRound (w.heap.size + 1) jump).run Tryz.prog W3 = .ok (.bool jump.isNone) (W3.putObj (w.heap.size + 1) (.loop (rec (if jump.isNone then .ready else .done) jump))) ∧
        (W3.putObj (w.heap.size + 1) (.loop (rec (if jump.isNone then .ready else .done) jump))).heap[w.heap.size + 1]? = some (.loop (rec (if jump.isNone then .ready else .done) jump)) := fun jump W3 hk3 => by
      have hl3 := (hk3.same _ (lt_of_heap hl2) (fun h => h rfl)).trans hl2
      have := run_endRound (P := Tryz.prog) jump hl3
      rw [hrec] at this ⊢
      exact ⟨this, World.putObj_heap_same (lt_of_heap hl3)⟩
    have bx : ∀ (k : Nat) (W3 : World) (o : Obj), Blk W3 ib 3 #[.int .i64 (k : Int)] → Blk (W3.putObj (w.heap.size + 1) o) ib 3 #[.int .i64 (k : Int)] := fun k W3 o h => h.of_heap (World.putObj_heap_other (by omega))
    rintro e a3 W3 hp
    cases e with
    | normal =>
      obtain ⟨hne, hp3, hb3, hk3⟩ := hp
      obtain ⟨hr3, hl4⟩ := fin none W3 hk3
      exact ⟨_, _, hr3, hp3.aside (kl _ _) hHS hHE, .inl ⟨rfl, by omega, bx _ _ _ hb3, hl4⟩⟩
    | exit id =>
      obtain ⟨⟨rfl, rfl⟩, hp3, hb3, hk3⟩ := hp
      obtain ⟨hr3, hl4⟩ := fin (some (.exit 2)) W3 hk3
      exact ⟨_, _, hr3, hp3.aside (kl _ _) hHS hHE, .inr ⟨rfl, rfl, bx _ _ _ hb3, hl4⟩⟩
    | ret => exact hp.elim
    | goto t => exact hp.elim
    | panic ch => exact hp.elim
    | outgrown => exact hp.elim
end
end Go.Proofs.YtadipinnbehhhaaGreatDoor
