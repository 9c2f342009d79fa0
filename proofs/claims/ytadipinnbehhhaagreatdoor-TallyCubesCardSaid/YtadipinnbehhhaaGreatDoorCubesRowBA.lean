/- Parts of the proof: PathB PathL PathM PathN. -/
import Derived.Test.YtadipinnbehhhaaGreatDoorCubesRowAS
namespace Go.Proofs.YtadipinnbehhhaaGreatDoor
open Go.RowKit

section
variable {c : Cx} {w w' : World} {G : Nat → Prop} {s s' : RSt} {fs : List (ByteArray × AFile)} {name : ByteArray} {d : Dg}
theorem AkP.downC (P : AkP c fs name d s) (h : RmAt c w G s) : Calls Tryz.prog 28 #[.pointer (some ⟨c.k, 0, none⟩), .string name] w (CuR c name (recsD d) false d.v d.r d.m G s (d.P.map N3.rec4).reverse w) := by
  have := begin_go false h P.tape P.calm P.opn (by rw [P.hand]; omega) (by rw [P.hand, P.parts]; have := P.lim; omega) P.ok.rows.ends (by rw [recsD_len, P.ok.rows.len])
  refine down_is _ (this.mono fun e w1 q => ?_)
  have e2 : (if false = true then recsD d else (recsD d).reverse.tail) = (d.P.map N3.rec4).reverse := recsD_rev d
  rw [e2] at q
  obtain ⟨cb, b, j, q0, x, s', h1, _⟩ := q.out
  exact ⟨⟨_, _, h1⟩, q⟩
end

theorem nil_eq (w : World) : (binOp .eql 161 (.slice none 0 0) (.slice none 0 0)).run Tryz.prog w = .ok (.bool true) w := by kernel_rfl
theorem some_eq (g v : Nat) (w : World) : (binOp .eql 161 (.slice (some ⟨g, 0, none⟩) v v) (.slice none 0 0)).run Tryz.prog w = .ok (.bool false) w := by kernel_rfl
structure PsNew (X : KX) (Z : Nat → Prop) (pb : Nat) (o : Option (Nat × List Int)) (w : World) : Prop where mk ::
  out : ∃ G s j cb b x q, KStp X w G s j X.c.K ∧ CurAt X.c w cb b G s x { up := false, vars := X.d.v, root := X.d.r, nodes := X.d.m, given := 0, last := ⟨0, 0, 0⟩, dead := 0, done := false } ∧ RdLive X.c X.name 2 (recsD X.d) true x q (X.d.P.map N3.rec4).reverse ∧ PthAt X Z pb w G (.pointer (some ⟨cb, 0, none⟩)) X.d.r o
def LkGot (c : Cx) (v r m : Nat) (G : Nat → Prop) (s : RSt) (W : World) (v3 v4 : Value) (wd : World) : Prop :=
  ∃ T j3 s3 G3, v3 = .pointer (some ⟨T, 0, none⟩) ∧ v4 = .int .i64 0 ∧ Went j3 0 s s3 ∧ RmAt c wd G3 s3 ∧ Stp W G wd G3 ∧ Blk wd T 72 #[.int .i64 v, .int .u64 r, .int .i64 m] ∧ W.heap.size ≤ T ∧ Off c.E G3 T
section
variable {X : KX} {Z Z' : Nat → Prop} {pb : Nat} {o : Option (Nat × List Int)} {w w' : World} {fs : List (ByteArray × AFile)}
theorem PsNew.open_ (p : PsNew X Z pb o w) : PsOpen X Z pb o w := by
  obtain ⟨G, s, j, cb, b, x, q, h1, h2, h3, h4⟩ := p.out
  exact ⟨G, s, j, cb, b, x, _, q, _, h1, h2, rfl, h3, h4⟩
theorem PsNew.more (p : PsNew X Z pb o w) (k : Keep Nil w w') (hZ : ∀ x, Z' x → Z x ∨ (w.heap.size ≤ x ∧ x < w'.heap.size)) : PsNew X Z' pb o w' := by
  obtain ⟨G, s, j, cb, b, x, q, h1, h2, h3, h4⟩ := p.out
  exact ⟨G, s, j, cb, b, x, q, h1.nil k, h2.nil k, h3, h4.more k h2.lt hZ⟩
set_option maxRecDepth 100000 in
set_option maxHeartbeats 8000000 in
theorem pbegin (P : PxOk X fs) (hend : Calls Tryz.prog 178 #[.pointer (some ⟨pb, 0, none⟩)] w fun e w' => e = .returned (.tuple #[]) ∧ PsShut X Z pb o w' ∧ Keep (fun z => ¬ Z z) w w') (hZtb : ∀ z, Z z → z < w.heap.size) :
    Calls Tryz.prog 217 #[.pointer (some ⟨pb, 0, none⟩)] w fun e w' => e = .returned (.bool true) ∧ Keep (fun z => ¬ Z z) w w' ∧ ∃ o', PsNew X Z pb o' w' ∧ (∀ p, o = some p → o' = o) ∧ (o = none → ∃ tb, o' = some (tb, blankL X.d.v)) := by
  have HEND := Hid.intro_ hend
  have HP := Hid.intro_ P
  clear hend P
  go_enter Tryz.func217, Tryz.ntmps217
  go_wp2_with fail
  refine HEND.out.mono ?_
  rintro e w1 ⟨rfl, hsh, ke⟩
  have KE := Hid.intro_ ke
  have hZw : Hid (∀ z, Z z → z < w1.heap.size) := Hid.intro_ (fun z hz => Nat.lt_of_lt_of_le (hZtb z hz) ke.size)
  obtain ⟨G, s, j, root, h1, h2, h3⟩ := hsh.out
  obtain ⟨tv, b1, ho, hy, ht⟩ := h3.out
  have c0 : w1.cell? ⟨pb, 0, none⟩ = some (.pointer (some ⟨X.c.k, 0, none⟩)) := b1.at_ 0
  have c1 : w1.cell? ⟨pb, 1, none⟩ = some (.string X.name) := b1.at_ 1
  obtain ⟨v, hv⟩ : ∃ v, v = X.d.v := ⟨_, rfl⟩
  obtain ⟨r, hr⟩ : ∃ r, r = X.d.r := ⟨_, rfl⟩
  obtain ⟨m, hm⟩ : ∃ m, m = X.d.m := ⟨_, rfl⟩
  have hP1 := HP.out.P.step h1.went
  have hLK := fun W (k : Keep Nil w1 W) => hP1.look (h2.nil k)
  rw [← hv, ← hr, ← hm] at hLK
  have HLK := Hid.intro_ hLK
  have H1 := Hid.intro_ h1
  have H2 := Hid.intro_ h2
  have HO := Hid.intro_ ho
  have HY := Hid.intro_ hy
  have HT := Hid.intro_ ht
  have HB1 := Hid.intro_ b1
  have HZ1 := Hid.intro_ h3.za
  have HV := Hid.intro_ hv
  have HRR := Hid.intro_ hr
  have HM := Hid.intro_ hm
  clear ke hZtb hsh h1 h2 h3 b1 ho hy ht hP1 hLK hv hr hm
  go_upto_region 2 with (fail)
  go_cut [3, 4] from 8 to 19 (fun v3 v4 wd => LkGot X.c v r m G s w1 v3 v4 wd)
  case first =>
    have hSk : Hid (∀ w', Keep (fun z => w1.heap.size ≤ z ∨ G z) w1 w' → (w'.cell? ⟨pb, 0, none⟩ = some (.pointer (some ⟨X.c.k, 0, none⟩)) ∧ w'.cell? ⟨pb, 1, none⟩ = some (.string X.name))) := Hid.intro_ (fun w' k => by
      have hl := HB1.out.lt
      have hn : ¬ (w1.heap.size ≤ pb ∨ G pb) := fun h => h.elim (fun h => by omega) HO.out.1
      exact ⟨cell_keep c0 k hn, cell_keep c1 k hn⟩)
    go_region_held3 (fun w' => w'.cell? ⟨pb, 0, none⟩ = some (.pointer (some ⟨X.c.k, 0, none⟩)) ∧ w'.cell? ⟨pb, 1, none⟩ = some (.string X.name))
      (first | exact ⟨c0, c1⟩ | exact hSk.out _ KZ.out | exact hSk.out _ (KZ.out.alloc _) | exact hSk.out _ (((KZ.out.setCell (p := ⟨w1.heap.size, 0, none⟩) (fun _ => .inl (Nat.le_refl _)) _).setCell (p := ⟨w1.heap.size, 1, none⟩) (fun _ => .inl (Nat.le_refl _)) _).setCell (p := ⟨w1.heap.size, 2, none⟩) (fun _ => .inl (Nat.le_refl _)) _) | go_keep)
      (first
        | (go_at_call 26; refine (HLK.out _ (Keep.refl Nil w1).drew).mono ?_; rintro e w3 ⟨rfl, j3, s3, hj3, hw3, G3, h3, st3⟩
           have KZ := Hid.intro_ ((((Keep.refl Nil w1).drew.mono (fun _ _ h => h.elim : ∀ z, z < w1.heap.size → Nil z → (w1.heap.size ≤ z ∨ G z)))).trans st3.keep (fun z _ h => .inr h))
           have HW3 := Hid.intro_ hw3
           have H3 := Hid.intro_ h3
           have ST3 := Hid.intro_ ((Stp.of_nil (Keep.refl Nil w1).drew G).trans st3)
           clear hw3 h3 st3)
        | (go_at_call 26; refine (HLK.out _ ((Keep.refl Nil w1).alloc (.cells #[.int .i64 0, .int .u64 0, .int .i64 0] 72)).drew).mono ?_; rintro e w3 ⟨rfl, j3, s3, hj3, hw3, G3, h3, st3⟩
           have kn := ((Keep.refl Nil w1).alloc (.cells #[.int .i64 0, .int .u64 0, .int .i64 0] 72)).drew
           have KZ := Hid.intro_ ((kn.mono (fun _ _ h => h.elim : ∀ z, z < w1.heap.size → Nil z → (w1.heap.size ≤ z ∨ G z))).trans st3.keep (fun z _ h => .inr h))
           have hoT : Off X.c.E G w1.heap.size := Off.new H2.out.env H2.out.lt (Nat.le_refl _)
           have bz := (Blk.new w1 72 #[.int .i64 0, .int .u64 0, .int .i64 0]).drew.keep st3.keep hoT.1
           have z0 : w3.cell? ⟨w1.heap.size, 0, none⟩ = some (.int .i64 0) := bz.at_ 0
           have z1 : w3.cell? ⟨w1.heap.size, 1, none⟩ = some (.int .u64 0) := bz.at_ 1
           have z2 : w3.cell? ⟨w1.heap.size, 2, none⟩ = some (.int .i64 0) := bz.at_ 2
           have zf0 := bz.fr 0
           have zf1 := bz.fr 1
           have zf2 := bz.fr 2
           have HW3 := Hid.intro_ hw3
           have H3 := Hid.intro_ h3
           have ST3 := Hid.intro_ ((Stp.of_nil kn G).trans st3)
           have BZ := Hid.intro_ bz
           have HOT := Hid.intro_ (hoT.step (w := (w1.alloc (.cells #[.int .i64 0, .int .u64 0, .int .i64 0] 72)).drew) (by simp) st3)
           clear hw3 h3 st3 kn bz hoT))
    all_goals
      go_wp2_with fail
      go_meet
      first
        | exact ⟨w3.heap.size, j3, s3, G3, rfl, rfl, HW3.out, H3.out.nil ((Keep.refl Nil w3).alloc _), ST3.out.then_nil ((Keep.refl Nil w3).alloc _), Blk.new w3 _ _, ST3.out.keep.size, Off.new H3.out.env H3.out.lt (Nat.le_refl _)⟩
        | (have kx := ((((Keep.refl (fun z => z = w1.heap.size) w3).setCell (p := ⟨w1.heap.size, 0, none⟩) (fun _ => rfl) (.int .i64 v)).setCell (p := ⟨w1.heap.size, 1, none⟩) (fun _ => rfl) (.int .u64 r)).setCell (p := ⟨w1.heap.size, 2, none⟩) (fun _ => rfl) (.int .i64 m))
           exact ⟨w1.heap.size, j3, s3, G3, rfl, rfl, HW3.out, H3.out.beside kx (fun z hz => by rw [show z = w1.heap.size from hz]; exact HOT.out), ⟨ST3.out.keep.trans kx (fun z hz e => by have e : z = w1.heap.size := e; omega), ST3.out.grow⟩, ((BZ.out.set_ 0 _).set_ 1 _).set_ 2 _, Nat.le_refl _, HOT.out⟩)
  case rest =>
    obtain ⟨wa, rfl⟩ : ∃ x : World, x = wc := ⟨_, rfl⟩
    obtain ⟨T, j3, s3, G3, rfl, rfl, hw3, h3, st3, bT, hT, hoT⟩ := hcut
    have hTl := bT.lt
    have hpl := HB1.out.lt
    have nT : ¬ T = pb := by omega
    have nT2 : ¬ pb = T := by omega
    have b3 := HB1.out.keep st3.keep HO.out.1
    have ho3 := HO.out.step hpl st3
    have hw := (H1.out.went.trans hw3).of_eq rfl (Int.add_zero 0)
    have hdn := (HP.out.P.step hw).downC (h3.nil (Keep.refl Nil wa).drew)
    have d0 : wa.cell? ⟨pb, 0, none⟩ = some (.pointer (some ⟨X.c.k, 0, none⟩)) := b3.at_ 0
    have d1 : wa.cell? ⟨pb, 1, none⟩ = some (.string X.name) := b3.at_ 1
    rw [← HV.out, ← HRR.out, ← HM.out] at hdn
    have HDN := Hid.intro_ hdn
    have HW3 := Hid.intro_ hw
    have HW33 := Hid.intro_ hw3
    have HST3 := Hid.intro_ st3
    have HBT := Hid.intro_ bT
    have HOT := Hid.intro_ hoT
    have HO3 := Hid.intro_ ho3
    have HB3 := Hid.intro_ b3
    have HT3 := Hid.intro_ (HT.out.step st3)
    have HZ3 := Hid.intro_ (HZ1.out.step st3)
    have KE3 := Hid.intro_ (KE.out.then_ (HZ1.out.keeps st3.keep))
    have HK3 := Hid.intro_ (H1.out.step st3 hw3)
    have hTY : Hid (X.Y.heap.size ≤ T) := Hid.intro_ (by have := HY.out; omega)
    clear c0 c1 HLK hw3 h3 st3 bT hT hoT b3 ho3 hw hdn
    go_wp2_with fail
    go_region_held3 (fun w' => w'.cell? ⟨pb, 0, none⟩ = some (.pointer (some ⟨X.c.k, 0, none⟩)) ∧ w'.cell? ⟨pb, 1, none⟩ = some (.string X.name))
      (first | exact ⟨d0, d1⟩ | exact hS4.out | go_keep)
      (first
        | (go_at_call 28; refine HDN.out.mono ?_; rintro e w4 hcr
           obtain ⟨cb, b, j4, q, x, s4, rfl, hj4, hq4, hw4, hv4, G4, hc4, st4⟩ := hcr.out
           have hS4 := Hid.intro_ (And.intro (cell_keep (w := wa.drew) d0 st4.keep HO3.out.1) (cell_keep (w := wa.drew) d1 st4.keep HO3.out.1))
           have HW4 := Hid.intro_ hw4
           have HV4 := Hid.intro_ hv4
           have HC4 := Hid.intro_ hc4
           have ST4 := Hid.intro_ st4
           clear hcr hw4 hv4 hc4 st4))
    have hb4 := (HB3.out.drew).keep ST4.out.keep HO3.out.1
    have hbT4 := (HBT.out.drew).keep ST4.out.keep HOT.out.1
    have ho4 := HO3.out.step (w := wa.drew) (by have := HB3.out.lt; simpa using this) ST4.out
    have hoT4 := HOT.out.step (w := wa.drew) (by simpa using hTl) ST4.out
    have ht4 := (HT3.out.nil (Keep.refl Nil wa).drew).step ST4.out
    have hk4 := (HK3.out.nil (Keep.refl Nil wa).drew).step ST4.out HW4.out
    have e2 : w4.cell? ⟨pb, 2, none⟩ = some (.pointer none) := hb4.at_ 2
    have e3 : w4.cell? ⟨pb, 3, none⟩ = some (.int .u64 root) := hb4.at_ 3
    have t1 : w4.cell? ⟨T, 1, none⟩ = some (.int .u64 r) := hbT4.at_ 1
    have f2 := hb4.fr 2
    have f3 := hb4.fr 3
    have HB4 := Hid.intro_ hb4
    have HBT4 := Hid.intro_ hbT4
    have HO4 := Hid.intro_ ho4
    have HOT4 := Hid.intro_ hoT4
    have HT4 := Hid.intro_ ht4
    have HZ4 := Hid.intro_ ((HZ3.out.keep (Keep.refl Nil wa).drew).step ST4.out)
    have KE4 := Hid.intro_ ((KE3.out.drew).then_ ((HZ3.out.keep (Keep.refl Nil wa).drew).keeps ST4.out.keep))
    have HK4 := Hid.intro_ hk4
    clear d0 d1 hb4 hbT4 ho4 hoT4 ht4 hk4 HDN HST3 HB1 HT H1
    go_upto_region 10 with (fail)
    go_cut [] from 44 to 52 (fun wd => Blk wd pb 286 (pthV X.c X.name (.pointer (some ⟨cb, 0, none⟩)) r tv) ∧ Keep (fun z => z = pb) w4 wd)
    case first =>
      go_region_held3 (fun w' => w'.cell? ⟨T, 1, none⟩ = some (.int .u64 r))
        (first | exact t1 | go_keep)
        (first | fail)
      all_goals
        go_wp2_with fail
        go_meet
        exact ⟨((HB4.out.set_ 2 _).set_ 3 _).drew, (((Keep.refl (fun z => z = pb) w4).setCell (p := ⟨pb, 2, none⟩) (fun _ => rfl) _).setCell (p := ⟨pb, 3, none⟩) (fun _ => rfl) _).drew⟩
    case rest =>
      obtain ⟨b5, k5⟩ := hcut
      have e4 : wc.cell? ⟨pb, 4, none⟩ = some tv := b5.at_ 4
      have f4 := b5.fr 4
      have hbT5 := HBT4.out.keep k5 (fun e => nT e)
      have t0 : wc.cell? ⟨T, 0, none⟩ = some (.int .i64 v) := hbT5.at_ 0
      have HB5 := Hid.intro_ b5
      have K5 := Hid.intro_ k5
      have hvl : v ≤ 65536 := by rw [HV.out]; exact HP.out.P.ok.rows.vars
      have hfin : Hid (∀ w7 tv' o', Keep (fun z => z = pb) w4 w7 → Blk w7 pb 286 (pthV X.c X.name (.pointer (some ⟨cb, 0, none⟩)) r tv') → TxtAt X pb w7 G4 o' tv' → (∀ z, Z z → ∀ tb t, o' = some (tb, t) → ¬ z = tb) → PsNew X Z pb o' w7 ∧ Keep (fun z => ¬ Z z) w w7) := Hid.intro_ (fun w7 tv' o' k7 b7 t7 hz7 => by
        have hc := HC4.out.keep k7 (fun z hz => by rw [show z = pb from hz]; exact HO4.out)
        have hk := HK4.out.own k7 (fun z hz => by rw [show z = pb from hz]; exact HY.out)
        have e0 : (0 : Int) + 0 + (X.c.K : Int) = X.c.K := by omega
        rw [e0] at hk
        rw [HV.out, HRR.out, HM.out] at hc
        rw [HRR.out] at b7
        exact ⟨⟨G4, s4, _, cb, b, x, q, hk, hc, HV4.out, ⟨tv', b7, HO4.out, HY.out, t7⟩, ⟨(HZ4.out.keep k7).off, hz7⟩⟩, KE4.out.then_ (HZ4.out.keepb k7)⟩)
      clear b5 k5 hbT5 e2 e3 t1 f2 f3 HBT HOT HO3 HB3 HT3 HK3 ST4 HW4 HW3 HW33 HBT4 HOT4 HEND
      cases o with
      | none =>
        have htv := HT4.out.no rfl
        subst htv
        have HBL := Hid.intro_ (blank_new v hvl wc)
        have hne := nil_eq wc
        go_wp2_with fail
        refine HBL.out.mono ?_
        rintro e w6 ⟨g, rfl, hg, hrow, k6⟩
        have b6 := HB5.out.keep k6 (fun h => h)
        have e6 : w6.cell? ⟨pb, 4, none⟩ = some (.slice none 0 0) := b6.at_ 4
        have f6 := b6.fr 4
        have HROW := Hid.intro_ hrow
        have K6 := Hid.intro_ k6
        have HG := Hid.intro_ hg
        have HB6 := Hid.intro_ b6
        clear hrow k6 hg b6 HBL
        go_wp2_with fail
        go_ret
        have hpg : ¬ g = pb := by
          have h1 := HB5.out.lt
          have h2 := HG.out
          omega
        have kz : Keep (fun z => z = pb) w6 (w6.setCell ⟨pb, 4, none⟩ (.slice (some ⟨g, 0, none⟩) v v)) := (Keep.refl (fun z => z = pb) w6).setCell (p := ⟨pb, 4, none⟩) (fun _ => rfl) _
        have kt : Keep (fun z => z = pb) w4 (w6.setCell ⟨pb, 4, none⟩ (.slice (some ⟨g, 0, none⟩) v v)) := (K5.out.trans K6.out (fun _ _ h => h.elim)).then_ kz
        have hle : w4.heap.size ≤ g := Nat.le_trans K5.out.size HG.out
        have hZg : ∀ z, Z z → ∀ tb t, some (g, blankL X.d.v) = some (tb, t) → ¬ z = tb := fun z hz tb t e e2 => by
          injection e with e
          injection e with e1 _
          have := (HZ4.out.off z hz).2.1
          omega
        have htx : TxtAt X pb (w6.setCell ⟨pb, 4, none⟩ (.slice (some ⟨g, 0, none⟩) v v)) G4 (some (g, blankL X.d.v)) (.slice (some ⟨g, 0, none⟩) v v) := by
          refine ⟨(fun h => by cases h), fun tb t e => ?_⟩
          injection e with e
          injection e with e1 e2
          subst e1 e2
          exact ⟨by rw [HV.out], by rw [← HV.out]; exact HROW.out.keep kz hpg, by simp [blankL], Txt3.blank _, Off.new HC4.out.env HC4.out.lt hle, by have := HK4.out.keep.size; omega, hpg⟩
        obtain ⟨hnew, hkp⟩ := hfin.out _ _ _ kt (HB6.out.set_ 4 _) htx hZg
        exact ⟨rfl, hkp, some (g, blankL X.d.v), hnew, by first | exact ⟨g, rfl⟩ | simp⟩
      | some pr =>
        obtain ⟨tb, t⟩ := pr
        obtain ⟨htv, hrow, hlen, h3t, hoff, hYt, hne⟩ := HT4.out.yes tb t rfl
        rw [← HV.out] at htv
        subst htv
        have hne2 := some_eq tb v wc
        go_wp2_with fail
        go_ret
        obtain ⟨hnew, hkp⟩ := hfin.out _ _ _ K5.out HB5.out (HT4.out.keep K5.out (fun z hz _ tb' t' e e2 => by
          injection e with e
          injection e with e3 e4
          subst e3
          exact hne (by rw [← e2]; exact hz)) (fun _ h _ => h)) HZ4.out.txt
        exact ⟨rfl, hkp, some (tb, t), hnew, by simp⟩
end
end Go.Proofs.YtadipinnbehhhaaGreatDoor
namespace Go.Proofs.YtadipinnbehhhaaGreatDoor
open Go.RowKit

set_option maxRecDepth 100000 in
set_option maxHeartbeats 1000000 in
theorem lower_any (a b c : Nat) (w : World) (bb : Bool) (hbb : bb = decide (b = 9223372036854775808)) : Calls Tryz.prog 222 #[.agg #[.int .u64 a, .int .u64 b, .int .u64 c]] w fun e w' => e = .returned (.int .i64 (if bb = true then 1 else 0)) ∧ Keep Nil w w' := by
  cases bb with
  | true =>
    have hb : b = 9223372036854775808 := of_decide_eq_true hbb.symm
    have q1 : ((b : Int) == 9223372036854775808) = true := by rw [hb]; rfl
    clear hb hbb
    go_enter Tryz.func222, Tryz.ntmps222
    go_wp2_with fail
    go_ret
    exact ⟨rfl, (Keep.refl Nil w).alloc _⟩
  | false =>
    have hb : ¬ b = 9223372036854775808 := of_decide_eq_false hbb.symm
    have q1 : ((b : Int) == 9223372036854775808) = false := by
      have : ¬ (b : Int) = 9223372036854775808 := by omega
      simpa using this
    clear hb hbb
    go_enter Tryz.func222, Tryz.ntmps222
    go_wp2_with fail
    go_ret
    exact ⟨rfl, (Keep.refl Nil w).alloc _⟩
def lastG (old : List Int) (n : N3) : Bool := decide (old.getD (lvN n.self) 0 = 49)
structure LsI (d : Dg) (old : List Int) (τ : Int) (tc bx pb tb : Nat) (c : Cx) (name : ByteArray) (cu : Value) (root : Nat) (p : Nat) (w : World) : Prop where mk ::
  out : ∃ (a : Int) (f : Nat), Blk w tc 3 #[.int .i64 a] ∧ turnN d.P old f p a = τ ∧ (-1 ≤ a ∧ a ≤ 65536) ∧ Fu p f ∧ Leads d p
  box : Blk w bx 284 #[.pointer (some ⟨pb, 0, none⟩)]
  pth : Blk w pb 286 (pthV c name cu root (.slice (some ⟨tb, 0, none⟩) d.v d.v))
  txt : RowV w tb 5 (by8 old)
def LsH (tc bx pb tb : Nat) : Nat → Prop := fun z => z = tc ∨ z = bx ∨ z = pb ∨ z = tb
section
variable {d : Dg} {old : List Int} {τ : Int} {tc bx pb tb : Nat} {c : Cx} {name : ByteArray} {cu : Value} {root p : Nat} {w w' : World}
theorem LsI.far (h : LsI d old τ tc bx pb tb c name cu root p w) (k : Keep (fun z => ¬ LsH tc bx pb tb z) w w') : LsI d old τ tc bx pb tb c name cu root p w' := by
  obtain ⟨a, f, h1, h2⟩ := h.out
  exact ⟨⟨a, f, h1.keep k (fun hn => hn (.inl rfl)), h2⟩, h.box.keep k (fun hn => hn (.inr (.inl rfl))), h.pth.keep k (fun hn => hn (.inr (.inr (.inl rfl)))), h.txt.keep k (fun hn => hn (.inr (.inr (.inr rfl))))⟩
set_option maxRecDepth 100000 in
set_option maxHeartbeats 8000000 in
theorem last_clo (ok : DgOk d) (hlen : old.length = d.v) (hdis : ¬ tc = bx ∧ ¬ tc = pb ∧ ¬ tc = tb) (n : N3) (hn : NodeAt d n) (h64 : n.self < 18446744073709551616) (h : LsI d old τ tc bx pb tb c name cu root n.self w) :
    Calls Tryz.prog 260 #[ndV n.self n.low n.high, .pointer (some ⟨bx, 0, none⟩), .pointer (some ⟨tc, 0, none⟩)] w fun e w' => e = .returned (.int .i64 (if lastG old n = true then 1 else 0)) ∧ LsI d old τ tc bx pb tb c name cu root (kidG (lastG old) n) w' ∧ Keep (LsH tc bx pb tb) w w' := by
  obtain ⟨a, f, hb, ht, hab, hf, hl⟩ := h.out
  obtain ⟨n1, n2, n3⟩ := hdis
  obtain ⟨f', rfl⟩ : ∃ f', f = f' + 1 := ⟨f - 1, by have := hf.one; omega⟩
  have hin := ok.rows.inn hn.mem
  obtain ⟨hpl1, _, _, _⟩ := sIn_lv hin
  obtain ⟨lv, hlv⟩ : ∃ lv, lv = lvN n.self := ⟨_, rfl⟩
  have hsl : sL n.self = (lv : Int) := by rw [hlv, lvN_sL]
  have hlvv : lv < d.v := by rw [hlv]; exact hn.lv
  have hv16 := ok.rows.vars
  have hlev := fun W => level_any n.self h64 W
  rw [hpl1, hsl] at hlev
  have HLV := Hid.intro_ hlev
  obtain ⟨x, hx⟩ : ∃ x, old[lv]? = some x := ⟨_, List.getElem?_eq_getElem (by omega)⟩
  have hxd : old.getD lv 0 = x := by rw [List.getD_eq_getElem?_getD, hx]; rfl
  rw [turn_node hn, ← hlv, hxd] at ht
  have hg : lastG old n = decide (x = 49) := by unfold lastG; rw [← hlv, hxd]
  obtain ⟨W, hW⟩ : ∃ W, W = w.alloc (.cells #[.int .u64 n.self, .int .u64 n.low, .int .u64 n.high] 46) := ⟨_, rfl⟩
  have kW : Keep Nil w W := by rw [hW]; exact (Keep.refl Nil w).alloc _
  have bW : Blk W w.heap.size 46 #[.int .u64 n.self, .int .u64 n.low, .int .u64 n.high] := by rw [hW]; exact Blk.new w _ _
  have y0 : W.cell? ⟨w.heap.size, 0, none⟩ = some (.int .u64 n.self) := bW.at_ 0
  have y2 : W.cell? ⟨w.heap.size, 2, none⟩ = some (.int .u64 n.high) := bW.at_ 2
  have c0 : W.cell? ⟨bx, 0, none⟩ = some (.pointer (some ⟨pb, 0, none⟩)) := (h.box.keep kW (fun h => h)).at_ 0
  have c4 : W.cell? ⟨pb, 4, none⟩ = some (.slice (some ⟨tb, 0, none⟩) d.v d.v) := (h.pth.keep kW (fun h => h)).at_ 4
  have ct : W.cell? ⟨tb, lv, none⟩ = some (.int .u8 x) := (h.txt.keep kW (fun h => h)).at_ (by8_at2 hx)
  have hbW := hb.keep kW (fun h => h)
  have cc : W.cell? ⟨tc, 0, none⟩ = some (.int .i64 a) := hbW.at_ 0
  have cf := hbW.fr 0
  have hl0 : (0 : Int) ≤ (lv : Int) := by omega
  have hl1 : (lv : Int) < (d.v : Int) := by omega
  obtain ⟨v, hv⟩ : ∃ v, v = d.v := ⟨_, rfl⟩
  rw [← hv] at c4 hl1 hlvv
  obtain ⟨a1, ha1⟩ : ∃ a1, a1 = n.self := ⟨_, rfl⟩
  obtain ⟨a2, ha2⟩ : ∃ a2, a2 = n.low := ⟨_, rfl⟩
  obtain ⟨a3, ha3⟩ : ∃ a3, a3 = n.high := ⟨_, rfl⟩
  have hkg : ∀ b : Bool, lastG old n = b → kidG (lastG old) n = if b = true then n.high else n.low := fun b e => by unfold kidG; rw [e]
  have hkl := hn.kid_leads (lastG old)
  have hfk : Fu (kidG (lastG old) n) f' := hf.kid hn.inn (hn.kid_level (lastG old))
  -- what is left when the turn is a', and the answer that of x
  have hfin : ∀ (a' : Int) (w' : World), (a' = if x = 48 ∧ ¬ n.high = 9223372036854775808 then (lv : Int) else a) → Blk w' tc 3 #[.int .i64 a'] → Keep (fun z => z = tc) W w' → LsI d old τ tc bx pb tb c name cu root (kidG (lastG old) n) w' ∧ Keep (LsH tc bx pb tb) w w' := fun a' w' ha' hb' k' => by
    have kk : Keep (fun z => z = tc) w w' := (kW.mono (fun _ _ h => h.elim)).then_ k'
    refine ⟨⟨⟨a', f', hb', ?_, ?_, hfk, hkl⟩, h.box.keep kk (fun e => n1 e.symm), h.pth.keep kk (fun e => n2 e.symm), h.txt.keep kk (fun e => n3 e.symm)⟩, kk.mono (fun z _ e => .inl e)⟩
    · rw [← ht, ha']
      congr 1
      rw [hkg _ rfl, hg]
      by_cases e : x = 49
      · rw [decide_eq_true e, if_pos rfl, if_pos e]
      · rw [decide_eq_false e, if_neg (by simp), if_neg e]
    · rw [ha']
      split
      · omega
      · exact hab
  have HFIN := Hid.intro_ hfin
  obtain ⟨an, han⟩ : ∃ an : Int, an = (if lastG old n = true then 1 else 0) := ⟨_, rfl⟩
  rw [hg] at han
  rw [show (if lastG old n = true then (1 : Int) else 0) = an by rw [han, hg]]
  have HG := Hid.intro_ han
  clear han
  have HBW := Hid.intro_ hbW
  have HKW := Hid.intro_ (Keep.refl (fun z => z = tc) W)
  rw [← ha1, ← ha2, ← ha3] at hW
  rw [← ha1] at y0 HLV
  rw [← ha3] at y2
  unfold ndV
  rw [← ha1, ← ha2, ← ha3]
  have HA3 := Hid.intro_ ha3
  have m1 : ¬ bx = w.heap.size := by have := h.box.lt; omega
  clear hb ht hf hl hin hpl1 hlv hsl hn h64 h hlev hx hxd hg kW bW hbW hv ha1 ha2 ha3 hkg hkl hfk hfin hab hlen ok hv16
  by_cases e48 : x = 48
  · subst e48
    by_cases eh : a3 = 9223372036854775808
    · have q1 : ((a3 : Int) != 9223372036854775808) = false := by rw [eh]; rfl
      have HF : Hid (an = 0) := Hid.intro_ (by rw [HG.out]; rfl)
      have HEH := Hid.intro_ eh
      clear eh
      go_enter Tryz.func260, Tryz.ntmps260
      go_upto_region 1 with (fail)
      rw [← hW]
      clear hW
      go_wp2_with (go_at_call 95; refine (HLV.out _).mono ?_; rintro e w' ⟨rfl, hw⟩; obtain rfl := hw.symm)
      go_ret
      exact ⟨by rw [HF.out]; rfl, HFIN.out a W (by rw [if_neg (fun h => h.2 (by rw [← HA3.out]; exact HEH.out))]) HBW.out HKW.out⟩
    · have q1 : ((a3 : Int) != 9223372036854775808) = true := by
        have : ¬ (a3 : Int) = 9223372036854775808 := by omega
        simpa using this
      have HF : Hid (an = 0) := Hid.intro_ (by rw [HG.out]; rfl)
      have HEH := Hid.intro_ eh
      clear eh
      go_enter Tryz.func260, Tryz.ntmps260
      go_upto_region 1 with (fail)
      rw [← hW]
      clear hW
      go_wp2_with (go_at_call 95; refine (HLV.out _).mono ?_; rintro e w' ⟨rfl, hw⟩; obtain rfl := hw.symm)
      go_ret
      exact ⟨by rw [HF.out]; rfl, HFIN.out lv _ (by
        have h9 : ¬ n.high = 9223372036854775808 := by rw [← HA3.out]; exact HEH.out
        simp [h9]) (HBW.out.set_ 0 _) (HKW.out.setCell (p := ⟨tc, 0, none⟩) (fun _ => rfl) _)⟩
  · have q48 : (x == 48) = false := by simpa using e48
    by_cases e49 : x = 49
    · subst e49
      have HF : Hid (an = 1) := Hid.intro_ (by rw [HG.out]; rfl)
      go_enter Tryz.func260, Tryz.ntmps260
      go_upto_region 1 with (fail)
      rw [← hW]
      clear hW
      go_wp2_with (go_at_call 95; refine (HLV.out _).mono ?_; rintro e w' ⟨rfl, hw⟩; obtain rfl := hw.symm)
      go_ret
      exact ⟨by rw [HF.out]; rfl, HFIN.out a W (by rw [if_neg (fun h => e48 h.1)]) HBW.out HKW.out⟩
    · have q49 : (x == 49) = false := by simpa using e49
      have HF : Hid (an = 0) := Hid.intro_ (by rw [HG.out, decide_eq_false e49]; rfl)
      have HE := Hid.intro_ e48
      clear e48 e49
      go_enter Tryz.func260, Tryz.ntmps260
      go_upto_region 1 with (fail)
      rw [← hW]
      clear hW
      go_wp2_with (go_at_call 95; refine (HLV.out _).mono ?_; rintro e w' ⟨rfl, hw⟩; obtain rfl := hw.symm)
      go_ret
      exact ⟨by rw [HF.out]; rfl, HFIN.out a W (by rw [if_neg (fun h => HE.out h.1)]) HBW.out HKW.out⟩
end
end Go.Proofs.YtadipinnbehhhaaGreatDoor
namespace Go.Proofs.YtadipinnbehhhaaGreatDoor
open Go.RowKit

theorem last_enters (bx tc a b c : Nat) (W : World) : (callFunc 260 (#[ndV a b c] ++ #[.pointer (some ⟨bx, 0, none⟩), .pointer (some ⟨tc, 0, none⟩)])).run Tryz.prog W = .ok (.enter 260 (#[ndV a b c] ++ #[.pointer (some ⟨bx, 0, none⟩), .pointer (some ⟨tc, 0, none⟩)])) W := by kernel_rfl
section
variable {X Xi : KX} {Z : Nat → Prop} {pb tb : Nat} {old : List Int} {w w' Y2 : World} {fs : List (ByteArray × AFile)} {G G' : Nat → Prop} {s s' : RSt} {j j' : Nat} {h h' : Int}
theorem KStp.inner (p : KStp X w G s j h) (k0 : Keep Nil w Y2) (i : KStp Xi w' G' s' j' h') (hG : Xi.G0 = G) (hs : Xi.s0 = s) (hY : Xi.Y = Y2) (hH : ∀ z, Xi.H z → X.Y.heap.size ≤ z) : KStp X w' G' s' (j' + j) (h + h') := by
  have ik := i.keep
  have ig := i.grow
  have iw := i.went
  rw [hG, hY] at ik ig
  rw [hs] at iw
  have hsz := p.keep.size
  have hsz2 := k0.size
  have hgr : ∀ z, G' z → X.G0 z ∨ X.Y.heap.size ≤ z := fun z hz => by
    rcases ig z hz with h1 | h1
    · exact p.grow z h1
    · right
      omega
  refine ⟨(p.keep.trans k0 (fun _ _ h => h.elim)).trans ik (fun z hz hg => ?_), hgr, p.went.trans iw, fun z hz => ⟨fun hg => ?_, (p.off z hz).2⟩⟩
  · rcases hg with h1 | h1
    · rcases p.grow z h1 with h2 | h2
      · exact .inl h2
      · omega
    · have := hH z h1
      omega
  · have h2 := (p.off z hz)
    rcases ig z hg with h1 | h1
    · exact h2.1 h1
    · omega
set_option maxRecDepth 100000 in
set_option maxHeartbeats 8000000 in
theorem plast (P : PxOk X fs) (hp : PsNew X Z pb (some (tb, old)) w) : Calls Tryz.prog 218 #[.pointer (some ⟨pb, 0, none⟩)] w fun e w' => e = .returned (.int .i64 (X.d.turnC old)) ∧ PsOpen X Z pb (some (tb, old)) w' ∧ Keep (fun z => ¬ Z z) w w' := by
  obtain ⟨G, s, j, cb, b, x, q, h1, h2, h3, h4⟩ := hp.out
  obtain ⟨tv, b1, ho, hy, ht⟩ := h4.out
  obtain ⟨htv, hrow, hlen, h3t, hoff, hYt, hne⟩ := ht.yes tb old rfl
  subst htv
  obtain ⟨v, hv⟩ : ∃ v, v = X.d.v := ⟨_, rfl⟩
  obtain ⟨r, hr⟩ : ∃ r, r = X.d.r := ⟨_, rfl⟩
  obtain ⟨τ, hτ⟩ : ∃ τ, τ = X.d.turnC old := ⟨_, rfl⟩
  obtain ⟨V, hV⟩ : ∃ V, V = (w.alloc (.cells #[.pointer (some ⟨pb, 0, none⟩)] 284)).alloc (.cells #[.int .i64 (-1)] 3) := ⟨_, rfl⟩
  have kV : Keep Nil w V := by rw [hV]; exact ((Keep.refl Nil w).alloc _).alloc _
  have bB : Blk V w.heap.size 284 #[.pointer (some ⟨pb, 0, none⟩)] := by rw [hV]; exact (Blk.new w _ _).alloc _
  have bT : Blk V (w.heap.size + 1) 3 #[.int .i64 (-1)] := by rw [hV]; exact Blk.new_at _ _ _ (by simp)
  have hVs : V.heap.size = w.heap.size + 1 + 1 := by rw [hV]; simp
  have bP := b1.keep kV (fun h => h)
  have rT := hrow.keep kV (fun h => h)
  have hbl := b1.lt
  have htl := hrow.lt
  have c0 : V.cell? ⟨w.heap.size, 0, none⟩ = some (.pointer (some ⟨pb, 0, none⟩)) := bB.at_ 0
  have c2 : V.cell? ⟨pb, 2, none⟩ = some (.pointer (some ⟨cb, 0, none⟩)) := bP.at_ 2
  have c3 : V.cell? ⟨pb, 3, none⟩ = some (.int .u64 r) := by rw [hr]; exact bP.at_ 3
  have kd : Keep Nil w V.drew := kV.then_ (Keep.refl Nil V).drew
  have hoB : Off X.c.E G w.heap.size := Off.new h2.env h2.lt (Nat.le_refl _)
  have hoT : Off X.c.E G (w.heap.size + 1) := Off.new h2.env h2.lt (Nat.le_succ _)
  have hHo : ∀ z, LsH (w.heap.size + 1) w.heap.size pb tb z → Off X.c.E G z := fun z hz => by
    rcases hz with e | e | e | e <;> rw [e]
    · exact hoT
    · exact hoB
    · exact ho
    · exact hoff
  have hHY : ∀ z, LsH (w.heap.size + 1) w.heap.size pb tb z → X.Y.heap.size ≤ z := fun z hz => by
    have := h1.keep.size
    rcases hz with e | e | e | e <;> rw [e] <;> omega
  have hHl : ∀ z, LsH (w.heap.size + 1) w.heap.size pb tb z → z < V.heap.size := fun z hz => by
    rcases hz with e | e | e | e <;> rw [e] <;> omega
  let Xi := twX X.c X.name X.d cb b G s (LsH (w.heap.size + 1) w.heap.size pb tb) V.drew q
  have hcu : CuK Xi 0 V.drew := twX_start (h2.nil kd) h3 (Nat.le_refl _) (fun z hz => ⟨(hHo z hz).1, hHl z hz⟩) (fun z hz => ⟨fun h => h, (hHo z hz).2⟩)
  have hko : KOk Xi fs := twX_ok P.P h1.went
  have hdec : DecI Xi (lastG old) 260 #[.pointer (some ⟨w.heap.size, 0, none⟩), .pointer (some ⟨w.heap.size + 1, 0, none⟩)] (LsI X.d old τ (w.heap.size + 1) w.heap.size pb tb X.c X.name (.pointer (some ⟨cb, 0, none⟩)) X.d.r) :=
    ⟨fun a b c W => last_enters _ _ a b c W, fun p W W' h k => h.far k, fun n W hn h64 _ _ hi => (last_clo P.P.ok hlen (by omega) n hn h64 hi).mono fun e w' ⟨a, b, c⟩ => ⟨a, b, c⟩⟩
  have hI0 : LsI X.d old τ (w.heap.size + 1) w.heap.size pb tb X.c X.name (.pointer (some ⟨cb, 0, none⟩)) X.d.r X.d.r V.drew :=
    ⟨⟨-1, 65537, bT.drew, hτ.symm, by omega, Fu.start _, P.P.ok.root⟩, bB.drew, bP.drew, rT.keep (Keep.refl Nil V).drew (fun h => h)⟩
  have htw := twalk_any Xi hko rfl P.P.ok (lastG old) _ _ _ hdec hcu hI0 (fun z hz => hHl z hz)
  have HTW := Hid.intro_ (show Calls Tryz.prog 220 #[.pointer (some ⟨cb, 0, none⟩), .int .u64 r, .func (.func 260) #[] #[.pointer (some ⟨w.heap.size, 0, none⟩), .pointer (some ⟨w.heap.size + 1, 0, none⟩)]] V.drew fun e w' => ∃ p k : Nat, e = .returned (.tuple #[.int .u64 p, .int .i64 0]) ∧ sF p = true ∧ LsI X.d old τ (w.heap.size + 1) w.heap.size pb tb X.c X.name (.pointer (some ⟨cb, 0, none⟩)) X.d.r p w' ∧ CuK Xi k w' from by rw [hr]; exact htw)
  -- what is left behind the walk
  have hfin : ∀ p k w', sF p = true → LsI X.d old τ (w.heap.size + 1) w.heap.size pb tb X.c X.name (.pointer (some ⟨cb, 0, none⟩)) X.d.r p w' → CuK Xi k w' → w'.cell? ⟨w.heap.size + 1, 0, none⟩ = some (.int .i64 τ) ∧ PsOpen X Z pb (some (tb, old)) w' ∧ Keep (fun z => ¬ Z z) w w' := fun p k w' hs hi hc => by
    obtain ⟨a, f, hb, hta, _⟩ := hi.out
    rw [turn_leaf hs] at hta
    subst hta
    refine ⟨hb.at_ 0, ?_⟩
    obtain ⟨G', s', x', q', j', i1, _, hca, hrl⟩ := hc.out
    have hk := h1.inner kd i1 rfl rfl rfl hHY
    rw [Int.add_zero] at hk
    have ho' : ∀ z, LsH (w.heap.size + 1) w.heap.size pb tb z → Off X.c.E G' z := fun z hz => ⟨(i1.off z hz).1, (hHo z hz).2⟩
    have hkz : Keep (fun z => ¬ Z z) w w' := by
      refine (kd.mono (fun _ _ h => h.elim : ∀ z, z < w.heap.size → Nil z → ¬ Z z)).trans i1.keep (fun z hz hg hZz => ?_)
      have hzo := h4.za.off z hZz
      rcases hg with hg | hg
      · exact hzo.1 hg
      · rcases hg with e | e | e | e
        · omega
        · omega
        · exact hzo.2.2 e
        · exact h4.za.txt z hZz tb old rfl e
    have hza : ZAt Z pb w' G' (some (tb, old)) := by
      refine ⟨fun z hZz => ?_, h4.za.txt⟩
      have hzo := h4.za.off z hZz
      refine ⟨fun hg => ?_, Nat.lt_of_lt_of_le hzo.2.1 hkz.size, hzo.2.2⟩
      rcases i1.grow z hg with h9 | h9
      · exact hzo.1 h9
      · have h9 : V.heap.size ≤ z := h9
        omega
    refine ⟨⟨G', s', _, cb, b, x', _, q', _, hk, hca, rfl, hrl, ⟨.slice (some ⟨tb, 0, none⟩) X.d.v X.d.v, hi.pth, ho' _ (.inr (.inr (.inl rfl))), hy, ⟨(fun h => by cases h), fun tb' t' e => ?_⟩⟩, hza⟩, hkz⟩
    injection e with e
    injection e with e1 e2
    subst e1 e2
    exact ⟨rfl, hi.txt, hlen, h3t, ho' _ (.inr (.inr (.inr rfl))), hYt, hne⟩
  have HFIN := Hid.intro_ hfin
  have HRR := Hid.intro_ hr
  have hτ' := Hid.intro_ hτ
  clear hτ hp h1 h2 h3 h4 b1 ho hy ht hrow hlen h3t hoff hYt hne hv hr kV bB bT bP rT kd hoB hoT hHo hHY hHl hko hdec hI0 htw hfin hcu
  go_enter Tryz.func218, Tryz.ntmps218
  go_upto_region 2 with (fail)
  rw [← hV]
  clear hV
  go_region_held3 (fun w' => w'.cell? ⟨w.heap.size, 0, none⟩ = some (.pointer (some ⟨pb, 0, none⟩)) ∧ w'.cell? ⟨pb, 2, none⟩ = some (.pointer (some ⟨cb, 0, none⟩)) ∧ w'.cell? ⟨pb, 3, none⟩ = some (.int .u64 r))
    (first | exact ⟨c0, c2, c3⟩ | exact hS5.out | go_keep)
    (first
      | (go_at_call 220; refine HTW.out.mono ?_; rintro e w5 ⟨p5, k5, rfl, hs5, hi5, hc5⟩
         obtain ⟨e5, hop⟩ := HFIN.out p5 k5 w5 hs5 hi5 hc5
         have hS5 := Hid.intro_ (And.intro (hi5.box.at_ 0) (And.intro (hi5.pth.at_ 2) (show w5.cell? ⟨pb, 3, none⟩ = some (.int .u64 r) by rw [HRR.out]; exact hi5.pth.at_ 3)))
         have HOP := Hid.intro_ hop
         clear hi5 hc5 hs5 hop))
  go_wp2_with fail
  go_ret
  exact ⟨by rw [hτ'.out] <;> rfl, HOP.out⟩
end
end Go.Proofs.YtadipinnbehhhaaGreatDoor
namespace Go.Proofs.YtadipinnbehhhaaGreatDoor
open Go.RowKit

theorem next_enters (tc ob bx a b c : Nat) (W : World) : (callFunc 221 (#[ndV a b c] ++ #[.pointer (some ⟨tc, 0, none⟩), .pointer (some ⟨ob, 0, none⟩), .pointer (some ⟨bx, 0, none⟩)])).run Tryz.prog W = .ok (.enter 221 (#[ndV a b c] ++ #[.pointer (some ⟨tc, 0, none⟩), .pointer (some ⟨ob, 0, none⟩), .pointer (some ⟨bx, 0, none⟩)])) W := by kernel_rfl
structure NxI (d : Dg) (old : List Int) (τ : Int) (new : List Int) (tc ob bx pb to_ tn : Nat) (c : Cx) (name : ByteArray) (cu : Value) (root : Nat) (p : Nat) (w : World) : Prop where mk ::
  out : ∃ (t : List Int) (f : Nat), RowV w tn 5 (by8 t) ∧ t.length = d.v ∧ runN3 d.P (turnG old τ) f p t = new ∧ okN d.P old τ f p ∧ Fu p f ∧ Leads d p
  trn : Blk w tc 3 #[.int .i64 τ]
  obx : Blk w ob 161 #[.slice (some ⟨to_, 0, none⟩) d.v d.v]
  box : Blk w bx 284 #[.pointer (some ⟨pb, 0, none⟩)]
  pth : Blk w pb 286 (pthV c name cu root (.slice (some ⟨tn, 0, none⟩) d.v d.v))
  txt : RowV w to_ 5 (by8 old)
def NxH (tc ob bx pb to_ tn : Nat) : Nat → Prop := fun z => z = tc ∨ z = ob ∨ z = bx ∨ z = pb ∨ z = to_ ∨ z = tn
section
variable {d : Dg} {old new : List Int} {τ : Int} {tc ob bx pb to_ tn : Nat} {c : Cx} {name : ByteArray} {cu : Value} {root p : Nat} {w w' : World}
theorem NxI.far (h : NxI d old τ new tc ob bx pb to_ tn c name cu root p w) (k : Keep (fun z => ¬ NxH tc ob bx pb to_ tn z) w w') : NxI d old τ new tc ob bx pb to_ tn c name cu root p w' := by
  obtain ⟨t, f, h1, h2⟩ := h.out
  exact ⟨⟨t, f, h1.keep k (fun hn => hn (.inr (.inr (.inr (.inr (.inr rfl)))))), h2⟩, h.trn.keep k (fun hn => hn (.inl rfl)), h.obx.keep k (fun hn => hn (.inr (.inl rfl))), h.box.keep k (fun hn => hn (.inr (.inr (.inl rfl)))), h.pth.keep k (fun hn => hn (.inr (.inr (.inr (.inl rfl))))), h.txt.keep k (fun hn => hn (.inr (.inr (.inr (.inr (.inl rfl))))))⟩
set_option maxRecDepth 100000 in
set_option maxHeartbeats 8000000 in
theorem next_clo (ok : DgOk d) (hlen : old.length = d.v) (hdis : ¬ tn = tc ∧ ¬ tn = ob ∧ ¬ tn = bx ∧ ¬ tn = pb ∧ ¬ tn = to_) (n : N3) (hn : NodeAt d n) (h64 : n.self < 18446744073709551616) (h : NxI d old τ new tc ob bx pb to_ tn c name cu root n.self w) :
    Calls Tryz.prog 221 #[ndV n.self n.low n.high, .pointer (some ⟨tc, 0, none⟩), .pointer (some ⟨ob, 0, none⟩), .pointer (some ⟨bx, 0, none⟩)] w fun e w' => e = .returned (.int .i64 (if turnG old τ n = true then 1 else 0)) ∧ NxI d old τ new tc ob bx pb to_ tn c name cu root (kidG (turnG old τ) n) w' ∧ Keep (NxH tc ob bx pb to_ tn) w w' := by
  obtain ⟨t, f, hb, htl, ht, hok, hf, hl⟩ := h.out
  obtain ⟨n1, n2, n3, n4, n5⟩ := hdis
  obtain ⟨f', rfl⟩ : ∃ f', f = f' + 1 := ⟨f - 1, by have := hf.one; omega⟩
  have hin := ok.rows.inn hn.mem
  obtain ⟨hpl1, _, _, _⟩ := sIn_lv hin
  obtain ⟨lv, hlv⟩ : ∃ lv, lv = lvN n.self := ⟨_, rfl⟩
  have hsl : sL n.self = (lv : Int) := by rw [hlv, lvN_sL]
  have hlvv : lv < d.v := by rw [hlv]; exact hn.lv
  have hlev := fun W => level_any n.self h64 W
  rw [hpl1, hsl] at hlev
  have HLV := Hid.intro_ hlev
  obtain ⟨x, hx⟩ : ∃ x, old[lv]? = some x := ⟨_, List.getElem?_eq_getElem (by omega)⟩
  have hxd : old.getD lv 0 = x := by rw [List.getD_eq_getElem?_getD, hx]; rfl
  obtain ⟨y, hyy⟩ : ∃ y, t[lv]? = some y := ⟨_, List.getElem?_eq_getElem (by omega)⟩
  obtain ⟨hok1, hok2⟩ := (ok_node hn).1 hok
  rw [← hlv, hxd] at hok1
  rw [run_node hn, ← hlv] at ht
  have hg : turnG old τ n = if (lv : Int) < τ then decide (x = 49) else if (lv : Int) = τ then true else lowG n := by unfold turnG; rw [← hlv, hxd]
  have hlow := fun W bb hbb => lower_any n.self n.low n.high W bb hbb
  obtain ⟨W, hW⟩ : ∃ W, W = w.alloc (.cells #[.int .u64 n.self, .int .u64 n.low, .int .u64 n.high] 46) := ⟨_, rfl⟩
  have kW : Keep Nil w W := by rw [hW]; exact (Keep.refl Nil w).alloc _
  have bW : Blk W w.heap.size 46 #[.int .u64 n.self, .int .u64 n.low, .int .u64 n.high] := by rw [hW]; exact Blk.new w _ _
  have hbW := hb.keep kW (fun h => h)
  obtain ⟨s, hs⟩ : ∃ s, s = turnG old τ n := ⟨_, rfl⟩
  rw [← hs] at ht hok2 hg
  have hkl := hn.kid_leads (turnG old τ)
  have hfk : Fu (kidG (turnG old τ) n) f' := hf.kid hn.inn (hn.kid_level (turnG old τ))
  have hkk : kidG (turnG old τ) n = if s = true then n.high else n.low := by unfold kidG; rw [hs]
  -- what is left when the text is written
  have hfin : ∀ (Wx w' : World), Keep Nil W Wx → RowV w' tn 5 (by8 (t.set lv (if s = true then 49 else 48))) → Keep (fun z => z = tn) Wx w' → NxI d old τ new tc ob bx pb to_ tn c name cu root (kidG (turnG old τ) n) w' ∧ Keep (NxH tc ob bx pb to_ tn) w w' := fun Wx w' kx hb' k' => by
    have kk : Keep (fun z => z = tn) w w' := ((kW.then_ kx).mono (fun _ _ h => h.elim)).then_ k'
    refine ⟨⟨⟨_, f', hb', ?_, ?_, ?_, hfk, hkl⟩, h.trn.keep kk (fun e => n1 e.symm), h.obx.keep kk (fun e => n2 e.symm), h.box.keep kk (fun e => n3 e.symm), h.pth.keep kk (fun e => n4 e.symm), h.txt.keep kk (fun e => n5 e.symm)⟩, kk.mono (fun z _ e => .inr (.inr (.inr (.inr (.inr e)))))⟩
    · rw [List.length_set]; exact htl
    · rw [hkk]; exact ht
    · rw [hkk]; exact hok2
  have HFIN := Hid.intro_ hfin
  have HG := Hid.intro_ hg
  have HBW := Hid.intro_ hbW
  have HLOW := Hid.intro_ hlow
  have HOK1 := Hid.intro_ hok1
  have HS := Hid.intro_ hs
  obtain ⟨an, han⟩ : ∃ an : Int, an = (if s = true then 1 else 0) := ⟨_, rfl⟩
  rw [show (if turnG old τ n = true then (1 : Int) else 0) = an by rw [han, hs]]
  have HAN := Hid.intro_ han
  obtain ⟨v, hv⟩ : ∃ v, v = d.v := ⟨_, rfl⟩
  obtain ⟨a1, ha1⟩ : ∃ a1, a1 = n.self := ⟨_, rfl⟩
  obtain ⟨a2, ha2⟩ : ∃ a2, a2 = n.low := ⟨_, rfl⟩
  obtain ⟨a3, ha3⟩ : ∃ a3, a3 = n.high := ⟨_, rfl⟩
  -- the cells, wherever nothing has turned
  have hcells : ∀ Wx, Keep Nil W Wx → (Wx.cell? ⟨w.heap.size, 0, none⟩ = some (.int .u64 a1) ∧ Wx.cell? ⟨w.heap.size, 1, none⟩ = some (.int .u64 a2) ∧ Wx.cell? ⟨w.heap.size, 2, none⟩ = some (.int .u64 a3)) ∧ (Wx.cell? ⟨tc, 0, none⟩ = some (.int .i64 τ) ∧ Wx.cell? ⟨ob, 0, none⟩ = some (.slice (some ⟨to_, 0, none⟩) v v) ∧ Wx.cell? ⟨bx, 0, none⟩ = some (.pointer (some ⟨pb, 0, none⟩))) ∧ (Wx.cell? ⟨pb, 4, none⟩ = some (.slice (some ⟨tn, 0, none⟩) v v) ∧ Wx.cell? ⟨to_, lv, none⟩ = some (.int .u8 x) ∧ Wx.cell? ⟨tn, lv, none⟩ = some (.int .u8 y) ∧ Wx.frozen? ⟨tn, lv, none⟩ = false) := fun Wx kx => by
    have kk := kW.then_ kx
    rw [ha1, ha2, ha3, hv]
    exact ⟨⟨(bW.keep kx (fun h => h)).at_ 0, (bW.keep kx (fun h => h)).at_ 1, (bW.keep kx (fun h => h)).at_ 2⟩, ⟨(h.trn.keep kk (fun h => h)).at_ 0, (h.obx.keep kk (fun h => h)).at_ 0, (h.box.keep kk (fun h => h)).at_ 0⟩, (h.pth.keep kk (fun h => h)).at_ 4, (h.txt.keep kk (fun h => h)).at_ (by8_at2 hx), (hb.keep kk (fun h => h)).at_ (by8_at2 hyy), (hb.keep kk (fun h => h)).fr lv⟩
  have HCELLS := Hid.intro_ hcells
  obtain ⟨⟨y0, y1, y2⟩, ⟨z0, z1, z2⟩, z4, zo, zn, zf⟩ := hcells W (Keep.refl Nil W)
  rw [← ha1, ← ha2, ← ha3] at hW HLOW
  rw [← ha1] at HLV
  unfold ndV
  rw [← ha1, ← ha2, ← ha3]
  have HA2 := Hid.intro_ ha2
  have hl0 : (0 : Int) ≤ (lv : Int) := by omega
  have hl1 : (lv : Int) < (v : Int) := by omega
  have hll := Hid.intro_ (show lv < t.length by omega)
  clear hb htl ht hok hf hl hin hpl1 hlv hsl hn h64 h hlev hx hxd hyy hok1 hok2 hg hlow kW bW hbW hs hkl hfk hkk hfin han hcells hv ha1 ha2 ha3 hlen ok hlvv
  obtain ⟨bl, hbl⟩ : ∃ bl, bl = decide (a2 = 9223372036854775808) := ⟨_, rfl⟩
  obtain ⟨lw, hlw⟩ : ∃ lw : Int, lw = (if bl = true then 1 else 0) := ⟨_, rfl⟩
  have HLW : Hid (∀ W, Calls Tryz.prog 222 #[.agg #[.int .u64 a1, .int .u64 a2, .int .u64 a3]] W fun e w' => e = .returned (.int .i64 lw) ∧ Keep Nil W w') := Hid.intro_ (fun W => by rw [hlw]; exact HLOW.out W bl hbl)
  have HBL := Hid.intro_ hbl
  have HLWE := Hid.intro_ hlw
  clear hbl hlw HLOW
  by_cases h1 : (lv : Int) < τ
  · rcases HOK1.out h1 with e | e
    · subst e
      have hs0 : s = false := by rw [HG.out]; rw [if_pos h1]; rfl
      have HF : Hid (an = 0) := Hid.intro_ (by rw [HAN.out, hs0]; rfl)
      have HSV : Hid ((if s = true then (49 : Int) else 48) = 48) := Hid.intro_ (by rw [hs0]; rfl)
      clear hs0
      go_enter Tryz.func221, Tryz.ntmps221
      go_upto_region 1 with (fail)
      rw [← hW]
      clear hW
      go_wp2_with (first
        | (go_at_call 95; refine (HLV.out _).mono ?_; rintro e w' ⟨rfl, hw⟩; obtain rfl := hw.symm)
        | (go_at_call 222; refine (HLW.out _).mono ?_; rintro e w3 ⟨rfl, k3⟩
           obtain ⟨⟨y0, y1, y2⟩, ⟨z0, z1, z2⟩, z4, zo, zn, zf⟩ := HCELLS.out w3 k3
           have K3 := Hid.intro_ k3
           clear k3))
      go_ret
      exact ⟨by rw [HF.out] <;> rfl, HFIN.out w3 _ K3.out (by rw [HSV.out, ← by8_set2]; exact (HBW.out.keep K3.out (fun h => h)).set lv _) ((Keep.refl (fun z => z = tn) w3).setCell (p := ⟨tn, lv, none⟩) (fun _ => rfl) _)⟩
    · subst e
      have hs0 : s = true := by rw [HG.out]; rw [if_pos h1]; rfl
      have HF : Hid (an = 1) := Hid.intro_ (by rw [HAN.out, hs0]; rfl)
      have HSV : Hid ((if s = true then (49 : Int) else 48) = 49) := Hid.intro_ (by rw [hs0]; rfl)
      clear hs0
      go_enter Tryz.func221, Tryz.ntmps221
      go_upto_region 1 with (fail)
      rw [← hW]
      clear hW
      go_wp2_with (first
        | (go_at_call 95; refine (HLV.out _).mono ?_; rintro e w' ⟨rfl, hw⟩; obtain rfl := hw.symm)
        | (go_at_call 222; refine (HLW.out _).mono ?_; rintro e w3 ⟨rfl, k3⟩
           obtain ⟨⟨y0, y1, y2⟩, ⟨z0, z1, z2⟩, z4, zo, zn, zf⟩ := HCELLS.out w3 k3
           have K3 := Hid.intro_ k3
           clear k3))
      go_ret
      exact ⟨by rw [HF.out] <;> rfl, HFIN.out w3 _ K3.out (by rw [HSV.out, ← by8_set2]; exact (HBW.out.keep K3.out (fun h => h)).set lv _) ((Keep.refl (fun z => z = tn) w3).setCell (p := ⟨tn, lv, none⟩) (fun _ => rfl) _)⟩
  · by_cases h2 : (lv : Int) = τ
    · have q2 : ((lv : Int) == τ) = true := by simpa using h2
      have hs0 : s = true := by rw [HG.out]; rw [if_neg h1, if_pos h2]
      have HF : Hid (an = 1) := Hid.intro_ (by rw [HAN.out, hs0]; rfl)
      have HSV : Hid ((if s = true then (49 : Int) else 48) = 49) := Hid.intro_ (by rw [hs0]; rfl)
      clear hs0
      have h9 : ¬ τ < τ := by omega
      subst h2
      go_enter Tryz.func221, Tryz.ntmps221
      go_upto_region 1 with (fail)
      rw [← hW]
      clear hW
      go_wp2_with (first
        | (go_at_call 95; refine (HLV.out _).mono ?_; rintro e w' ⟨rfl, hw⟩; obtain rfl := hw.symm)
        | (go_at_call 222; refine (HLW.out _).mono ?_; rintro e w3 ⟨rfl, k3⟩
           obtain ⟨⟨y0, y1, y2⟩, ⟨z0, z1, z2⟩, z4, zo, zn, zf⟩ := HCELLS.out w3 k3
           have K3 := Hid.intro_ k3
           clear k3))
      go_ret
      exact ⟨by rw [HF.out] <;> rfl, HFIN.out w3 _ K3.out (by rw [HSV.out, ← by8_set2]; exact (HBW.out.keep K3.out (fun h => h)).set lv _) ((Keep.refl (fun z => z = tn) w3).setCell (p := ⟨tn, lv, none⟩) (fun _ => rfl) _)⟩
    · have q2 : ((lv : Int) == τ) = false := by simpa using h2
      have hlg : lowG n = bl := by rw [HBL.out, HA2.out]; rfl
      cases bl with
      | true =>
        obtain rfl : lw = 1 := HLWE.out
        have hs0 : s = true := by rw [HG.out]; rw [if_neg h1, if_neg h2, hlg]
        have HF : Hid (an = 1) := Hid.intro_ (by rw [HAN.out, hs0]; rfl)
        have HSV : Hid ((if s = true then (49 : Int) else 48) = 49) := Hid.intro_ (by rw [hs0]; rfl)
        clear hs0
        clear hlg h2
        go_enter Tryz.func221, Tryz.ntmps221
        go_upto_region 1 with (fail)
        rw [← hW]
        clear hW
        go_wp2_with (first
          | (go_at_call 95; refine (HLV.out _).mono ?_; rintro e w' ⟨rfl, hw⟩; obtain rfl := hw.symm)
          | (go_at_call 222; refine (HLW.out _).mono ?_; rintro e w3 ⟨rfl, k3⟩
             obtain ⟨⟨y0, y1, y2⟩, ⟨z0, z1, z2⟩, z4, zo, zn, zf⟩ := HCELLS.out w3 k3
             have K3 := Hid.intro_ k3
             clear k3))
        go_ret
        exact ⟨by rw [HF.out] <;> rfl, HFIN.out w3 _ K3.out (by rw [HSV.out, ← by8_set2]; exact (HBW.out.keep K3.out (fun h => h)).set lv _) ((Keep.refl (fun z => z = tn) w3).setCell (p := ⟨tn, lv, none⟩) (fun _ => rfl) _)⟩
      | false =>
        obtain rfl : lw = 0 := HLWE.out
        have hs0 : s = false := by rw [HG.out]; rw [if_neg h1, if_neg h2, hlg]
        have HF : Hid (an = 0) := Hid.intro_ (by rw [HAN.out, hs0]; rfl)
        have HSV : Hid ((if s = true then (49 : Int) else 48) = 48) := Hid.intro_ (by rw [hs0]; rfl)
        clear hs0
        clear hlg h2
        go_enter Tryz.func221, Tryz.ntmps221
        go_upto_region 1 with (fail)
        rw [← hW]
        clear hW
        go_wp2_with (first
          | (go_at_call 95; refine (HLV.out _).mono ?_; rintro e w' ⟨rfl, hw⟩; obtain rfl := hw.symm)
          | (go_at_call 222; refine (HLW.out _).mono ?_; rintro e w3 ⟨rfl, k3⟩
             obtain ⟨⟨y0, y1, y2⟩, ⟨z0, z1, z2⟩, z4, zo, zn, zf⟩ := HCELLS.out w3 k3
             have K3 := Hid.intro_ k3
             clear k3))
        go_ret
        exact ⟨by rw [HF.out] <;> rfl, HFIN.out w3 _ K3.out (by rw [HSV.out, ← by8_set2]; exact (HBW.out.keep K3.out (fun h => h)).set lv _) ((Keep.refl (fun z => z = tn) w3).setCell (p := ⟨tn, lv, none⟩) (fun _ => rfl) _)⟩
end
end Go.Proofs.YtadipinnbehhhaaGreatDoor
