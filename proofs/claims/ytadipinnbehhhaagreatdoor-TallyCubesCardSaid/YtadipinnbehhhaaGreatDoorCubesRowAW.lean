/- TallyCubes: sorted: the references' merge sort. -/
import Derived.Test.YtadipinnbehhhaaGreatDoorCubesRowAV
import Derived.Test.YtadipinnbehhhaaGreatDoorCubesRowAU
namespace Go.Proofs.YtadipinnbehhhaaGreatDoor
open Go.RowKit

theorem Rd.pre {w : World} {A : Option Addr} {xs ys : List Value} (h : Rd w A (xs ++ ys)) : Rd w A xs := fun j u hu => h j u (by rw [List.getElem?_append_left (List.getElem?_eq_some_iff.1 hu).1]; exact hu)
theorem Rd.suf {w : World} {g o : Nat} {xs ys : List Value} (h : Rd w (some ⟨g, o, none⟩) (xs ++ ys)) {n : Nat} (hn : xs.length = n) : Rd w (some ⟨g, o + n, none⟩) ys := fun j u hu => by
  obtain ⟨ad, e, hc⟩ := h (n + j) u (by rw [List.getElem?_append_right (by omega), show n + j - xs.length = j by omega]; exact hu)
  injection e with e
  subst e
  refine ⟨_, rfl, ?_⟩
  rw [add_at] at hc ⊢
  rw [Nat.add_assoc]
  exact hc
theorem sortP_small {l : List P2} (h : l.length < 2) : sortP l = l := by
  match l, h with
  | [], _ => rfl
  | [x], _ => rfl
theorem neq_pair (a b x y : Int) (w : World) : (binOp .neq 331 (.agg #[.int .u64 a, .int .u64 b]) (.agg #[.int .u64 x, .int .u64 y])).run Tryz.prog w = .ok (.bool (!(decide (a = x) && decide (b = y)))) w := by
  rw [run_neq_struct]
  have e : (Op.equalIn 10000 331 (.agg #[.int .u64 a, .int .u64 b]) (.agg #[.int .u64 x, .int .u64 y])).run Tryz.prog w = .ok (decide (a = x) && decide (b = y)) w := by
    by_cases h1 : a = x
    · by_cases h2 : b = y
      · go_simp
      · go_simp
    · go_simp
  rw [e]
  rfl
theorem neq_pr {y x : P2} (h : ¬ y = x) (w : World) : (binOp .neq 331 (.agg #[.int .u64 (y.1 : Int), .int .u64 (y.2 : Int)]) (.agg #[.int .u64 (x.1 : Int), .int .u64 (x.2 : Int)])).run Tryz.prog w = .ok (.bool true) w := by
  rw [neq_pair]
  have : (!(decide ((y.1 : Int) = (x.1 : Int)) && decide ((y.2 : Int) = (x.2 : Int)))) = true := by
    by_cases h1 : (y.1 : Int) = (x.1 : Int)
    · by_cases h2 : (y.2 : Int) = (x.2 : Int)
      · exact absurd (Prod.ext (by omega) (by omega)) h
      · simp [h2]
    · simp [h1]
  rw [this]
def TyAt (w : World) (A : Option Addr) (t : TypeId) : Prop := ∀ a, A = some a → ∃ cs, Blk w a.block t cs
theorem TyAt.keep {F : Nat → Prop} {w w' : World} {A : Option Addr} {t : TypeId} (h : TyAt w A t) (k : Keep F w w') (hn : ∀ a, A = some a → ¬ F a.block) : TyAt w' A t := fun a e => by
  obtain ⟨cs, hb⟩ := h a e
  exact ⟨cs, hb.keep k (hn a e)⟩
theorem TyAt.own {w : World} {base n c m size : Nat} {t : TypeId} {C : Option Addr} {xs : List Value} (h : w.ownsRow base t size (.slice C n c) m xs) : TyAt w C t := fun a e => by
  subst e
  exact own_blk h rfl
structure SrtPost (w : World) (l : List P2) (e : Ending) (w' : World) : Prop where mk ::
  out : ∃ B n c, e = .returned (.slice B n c) ∧ n = (sortP l).length ∧ Rd w' B (prCells (sortP l)) ∧ Spotless B ∧ n ≤ c ∧ Keep Nil w w' ∧ TyAt w' B 331
structure SrtX (a b : List P2) (i j i' j' : Nat) (x : P2) : Prop where
  go : ∀ out, MgI a b i j out → MgI a b i' j' (addP out x)
  sum : i' + j' = i + j + 1
  li : i' ≤ a.length
  lj : j' ≤ b.length
set_option maxRecDepth 100000 in
set_option maxHeartbeats 16000000 in
theorem sorted_any : ∀ (m : Nat) (l : List P2) (A : Option Addr) (ca : Nat) (w : World), l.length ≤ m → Rd w A (prCells l) → Spotless A → l.length ≤ ca → l.length ≤ 1048576 → TyAt w A 331 →
    Calls Tryz.prog 212 #[.slice A l.length ca] w (SrtPost w l) := by
  intro m
  induction m with
  | zero =>
    intro l A ca w hm hr hs hc hl hty
    have h0 : l.length < 2 := by omega
    have HF := Hid.intro_ (show SrtPost w l (.returned (.slice A l.length ca)) w from ⟨⟨A, _, ca, rfl, by rw [sortP_small h0], by rw [sortP_small h0]; exact hr, hs, hc, Keep.refl _ _, hty⟩⟩)
    have hd : ((l.length : Int) < 2) := by omega
    clear hr hs hc hl hm h0 hty
    go_enter Tryz.func212, Tryz.ntmps212
    go_wp2_with fail
    go_ret
    exact HF.out
  | succ m ih =>
    intro l A ca w hm hr hs hc hl hty
    by_cases h0 : l.length < 2
    · have HF := Hid.intro_ (show SrtPost w l (.returned (.slice A l.length ca)) w from ⟨⟨A, _, ca, rfl, by rw [sortP_small h0], by rw [sortP_small h0]; exact hr, hs, hc, Keep.refl _ _, hty⟩⟩)
      have hd : ((l.length : Int) < 2) := by omega
      clear hr hs hc hl hm h0 ih hty
      go_enter Tryz.func212, Tryz.ntmps212
      go_wp2_with fail
      go_ret
      exact HF.out
    · obtain ⟨N, hN⟩ : ∃ N, N = l.length := ⟨_, rfl⟩
      obtain ⟨h, hh⟩ : ∃ h, h = N / 2 := ⟨_, rfl⟩
      obtain ⟨xh, hxh⟩ : ∃ xh, l[0]? = some xh := ⟨_, List.getElem?_eq_getElem (by omega)⟩
      obtain ⟨g, o, hAe, hjunk⟩ := pr_at hr hxh hs
      subst hAe
      clear hjunk
      have hsplit : prCells l = prCells (l.take h) ++ prCells (l.drop h) := by rw [← prCells_app, List.take_append_drop]
      have hl1 : (l.take h).length = h := by rw [List.length_take]; omega
      have hl2 : (l.drop h).length = N - h := by rw [List.length_drop, hN]
      rw [hsplit] at hr
      have hi1 := ih (l.take h) (some ⟨g, o, none⟩) ca w (by omega) hr.pre hs (by omega) (by omega) hty
      have hi2 : ∀ W, Keep Nil w W → Calls Tryz.prog 212 #[.slice (some ⟨g, o + h * 2, none⟩) (N - h) (ca - h)] W (SrtPost W (l.drop h)) := fun W k => by
        have := ih (l.drop h) (some ⟨g, o + h * 2, none⟩) (ca - h) W (by omega) ((hr.suf (by rw [prCells_len, hl1])).keep k (fun _ _ _ h => h)) (fun a e => by injection e with e; rw [← e]) (by omega) (by omega) (fun a e => by injection e with e; rw [← e]; exact (hty _ rfl).imp (fun _ hb => hb.keep k (fun h => h)))
        rw [hl2] at this
        exact this
      rw [hl1] at hi1
      rw [← hN] at hl hc h0 ⊢
      have HI1 := Hid.intro_ hi1
      have HI2 := Hid.intro_ hi2
      have HL := Hid.intro_ (show l.take h ++ l.drop h = l from List.take_append_drop h l)
      have HL1 := Hid.intro_ hl1
      have HL2 := Hid.intro_ hl2
      have hNi : ¬ ((N : Int) < 2) := by omega
      have hq : (N : Int).tdiv 2 = (h : Int) := by rw [Int.tdiv_eq_ediv_of_nonneg (by omega)]; omega
      have hq2 : (N : Int) / 2 = (h : Int) := by omega
      have hhi : (h : Int) ≤ (ca : Int) := by omega
      have hhc : ¬ ca = h := by omega
      have hhN : h ≤ N := by omega
      have hhca : h ≤ ca := by omega
      have HH := Hid.intro_ hh
      clear hr hs ih hty hi1 hi2 hsplit hl1 hl2 hxh hh hN
      go_enter Tryz.func212, Tryz.ntmps212
      go_wp2_with fail
      refine HI1.out.mono ?_
      rintro e w1 ⟨⟨B1, n1, c1, rfl, hn1, hr1, hs1, hc1, k1, _⟩⟩
      obtain ⟨a, ha⟩ : ∃ a, a = sortP (l.take h) := ⟨_, rfl⟩
      rw [← ha] at hn1 hr1
      have HA := Hid.intro_ ha
      have HR1 := Hid.intro_ hr1
      have HN1 := Hid.intro_ hn1
      have HS1 := Hid.intro_ hs1
      have HK1 := Hid.intro_ k1
      have HSL1 := Hid.intro_ (show n1 ≤ h by have := sortP_len (l.take h); rw [HL1.out] at this; rw [hn1, ha]; exact this)
      clear ha hr1 hn1 hs1 hc1 HI1
      have HI3 := Hid.intro_ (HI2.out w1 k1)
      clear k1 HI2
      go_wp2_with fail
      refine HI3.out.mono ?_
      rintro e w2 ⟨⟨B2, n2, c2, rfl, hn2, hr2, hs2, hc2, k2, _⟩⟩
      obtain ⟨b, hb⟩ : ∃ b, b = sortP (l.drop h) := ⟨_, rfl⟩
      rw [← hb] at hn2 hr2
      have HB := Hid.intro_ hb
      have HR2 := Hid.intro_ hr2
      have HN2 := Hid.intro_ hn2
      have HS2 := Hid.intro_ hs2
      have HSL2 := Hid.intro_ (show n2 ≤ N - h by have := sortP_len (l.drop h); rw [HL2.out] at this; rw [hn2, hb]; exact this)
      have HR1' := Hid.intro_ (HR1.out.keep k2 (fun _ _ _ h => h))
      have HK2 := Hid.intro_ (HK1.out.then_ k2)
      have hnn : n1 + n2 ≤ 1048576 := by have := HSL1.out; have := HSL2.out; omega
      clear hb hr2 hn2 hs2 hc2 HI3 HR1 HK1 k2 hq hq2 hhi hhc hhN hhca hNi hc
      obtain ⟨ip, hip, hz0, hz1, hz2⟩ := info_parts info_pair
      go_wp2_with fail
      go_loopw [5, 6, 7] (fun s i j wz => ∃ (p q m : Nat) (C : Option Addr) (cc : Nat) (out : List P2), s = .slice C m cc ∧ i = .int .i64 p ∧ j = .int .i64 q ∧ p ≤ n1 ∧ q ≤ n2 ∧ m ≤ p + q ∧ Hid (m = out.length) ∧ Hid (MgI a b p q out) ∧ Hid (wz.ownsRow w2.heap.size 331 2 (.slice C m cc) m (prCells out)) ∧ Hid (Keep Nil w2 wz)) (fun _ i j _ => n1 + n2 - ((intOf i).toNat + (intOf j).toNat))
      case atStart => exact ⟨0, 0, 0, none, 0, [], rfl, rfl, rfl, Nat.zero_le _, Nat.zero_le _, Nat.zero_le _, Hid.intro_ rfl, Hid.intro_ (MgI.start a b), Hid.intro_ (World.ownsRow_nil _ _ _ _), Hid.intro_ (Keep.refl _ _)⟩
      case round =>
        obtain ⟨p, q, m, C, cc, out, rfl, rfl, rfl, hp, hq, hmp, HMM, HMG, HO, HKZ⟩ := hrel
        have hm63 : m ≤ 1048576 := by omega
        obtain ⟨W1, hW1⟩ : ∃ W1, W1 = wr.alloc (.cells #[.int .u64 0, .int .u64 0] 331) := ⟨_, rfl⟩
        have HB1 := Hid.intro_ (show Blk W1 wr.heap.size 331 #[.int .u64 0, .int .u64 0] by rw [hW1]; exact Blk.new wr _ _)
        have t0 : W1.cell? ⟨wr.heap.size, 0, none⟩ = some (.int .u64 0) := HB1.out.at_ 0
        have t1 : W1.cell? ⟨wr.heap.size, 1, none⟩ = some (.int .u64 0) := HB1.out.at_ 1
        have tf := HB1.out.fr 0
        have tf1 := HB1.out.fr 1
        have HKW := Hid.intro_ (show Keep Nil wr W1 by rw [hW1]; exact (Keep.refl Nil wr).alloc _)
        have HRA := Hid.intro_ ((HR1'.out.keep HKZ.out (fun _ _ _ h => h)).keep HKW.out (fun _ _ _ h => h))
        have HRB := Hid.intro_ ((HR2.out.keep HKZ.out (fun _ _ _ h => h)).keep HKW.out (fun _ _ _ h => h))
        have HW1 := Hid.intro_ hW1
        have HRSA := Hid.intro_ (show RiseP a by rw [HA.out]; exact sortP_rise _)
        have HRSB := Hid.intro_ (show RiseP b by rw [HB.out]; exact sortP_rise _)
        clear hW1
        by_cases hpn : p < n1
        · have hpi : (p : Int) < (n1 : Int) := by omega
          have hp0 : (0 : Int) ≤ (p : Int) := by omega
          obtain ⟨x, hx⟩ : ∃ x, a[p]? = some x := ⟨_, List.getElem?_eq_getElem (by have := HN1.out; omega)⟩
          obtain ⟨ga, oa, hAe, a0, a1⟩ := pr_at HRA.out hx HS1.out
          subst hAe
          have HX := Hid.intro_ hx
          have HLA := Hid.intro_ (show ga < wr.heap.size from by
            obtain ⟨g9, o9, e9, h9, _⟩ := pr_at (HR1'.out.keep HKZ.out (fun _ _ _ h => h)) hx HS1.out
            injection e9 with e9
            injection e9 with e9 e10
            rw [e9]
            exact cell_lt h9)
          clear hx
          by_cases hqn : q = n2
          · have hqe : ((q : Int) == (n2 : Int)) = true := by simp [hqn]
            have HSX := Hid.intro_ (show SrtX a b p q (p + 1) q x from ⟨fun o2 hM => hM.left HRSA.out HRSB.out HX.out (fun y hy => by rw [List.getElem?_eq_none (by rw [← HN2.out]; omega)] at hy; cases hy), by omega, by rw [← HN1.out]; omega, by rw [← HN2.out]; omega⟩)
            go_upto_region 10 with (fail)
            rw [← HW1.out]
            go_quiet (fail)
            obtain ⟨wa, ka, hwa⟩ : ∃ wa, Keep Nil W1 wa ∧ wa = W1.drewN nq := ⟨_, (Keep.refl Nil W1).drewN nq, rfl⟩
            rw [← hwa]
            have s0 : wa.cell? ⟨ga, oa + p * 2, none⟩ = some (.int .u64 (x.1 : Int)) := cell_keep a0 ka (fun h => h)
            have s1 : wa.cell? ⟨ga, oa + p * 2 + 1, none⟩ = some (.int .u64 (x.2 : Int)) := cell_keep a1 ka (fun h => h)
            have HKA := Hid.intro_ ka
            have hbw := HB1.out.keep ka (fun h => h)
            have u0 : wa.cell? ⟨wr.heap.size, 0, none⟩ = some (.int .u64 0) := hbw.at_ 0
            have u1 : wa.cell? ⟨wr.heap.size, 1, none⟩ = some (.int .u64 0) := hbw.at_ 1
            have uf := hbw.fr 0
            have uf1 := hbw.fr 1
            have hne0 : ¬ wr.heap.size = ga := by have := cell_lt s0; have := HLA.out; omega
            have hne1 : ¬ ga = wr.heap.size := fun e => hne0 e.symm
            have HBW := Hid.intro_ hbw
            clear hwa ka a0 a1 t0 t1 tf tf1 hbw
            go_wp2_with fail
            obtain ⟨wc, hwc⟩ : ∃ wc, wc = (wa.setCell ⟨wr.heap.size, 0, none⟩ (.int .u64 (x.1 : Int))).setCell ⟨wr.heap.size, 1, none⟩ (.int .u64 (x.2 : Int)) := ⟨_, rfl⟩
            rw [← hwc]
            have bT : Blk wc wr.heap.size 331 #[.int .u64 (x.1 : Int), .int .u64 (x.2 : Int)] := by rw [hwc]; exact (HBW.out.set_ 0 _).set_ 1 _
            have kT : Keep (fun z => z = wr.heap.size) W1 wc := by rw [hwc]; exact ((HKA.out.mono (G := fun z => z = wr.heap.size) (fun _ _ h => h.elim)).setCell (p := ⟨wr.heap.size, 0, none⟩) (fun _ => rfl) _).setCell (p := ⟨wr.heap.size, 1, none⟩) (fun _ => rfl) _
            clear hwc s0 s1 u0 u1 uf uf1 hne0 hne1
            have kw : Keep Nil wr wc := HKW.out.trans kT (fun z hz e => by have e : z = wr.heap.size := e; omega)
            have HKC := Hid.intro_ (HKZ.out.then_ kw)
            have x0 : wc.cell? ⟨wr.heap.size, 0, none⟩ = some (.int .u64 (x.1 : Int)) := bT.at_ 0
            have x1 : wc.cell? ⟨wr.heap.size, 1, none⟩ = some (.int .u64 (x.2 : Int)) := bT.at_ 1
            have HOC := Hid.intro_ (own_keep HO.out kw (fun _ _ h => h))
            clear bT kT kw
            rcases Nat.eq_zero_or_pos m with hm0 | hm0
            · subst hm0
              have HAD := Hid.intro_ (show addP out x = out ++ [x] by
                have : out = [] := List.length_eq_zero_iff.1 HMM.out.symm
                rw [this]
                rfl)
              go_quiet (fail)
              obtain ⟨wa2, ka, hwa⟩ : ∃ wa2, Keep Nil wc wa2 ∧ wa2 = wc.drewN nq := ⟨_, (Keep.refl Nil wc).drewN nq, rfl⟩
              rw [← hwa]
              have v0 : wa2.cell? ⟨wr.heap.size, 0, none⟩ = some (.int .u64 (x.1 : Int)) := cell_keep x0 ka (fun h => h)
              have v1 : wa2.cell? ⟨wr.heap.size, 1, none⟩ = some (.int .u64 (x.2 : Int)) := cell_keep x1 ka (fun h => h)
              have HOD := Hid.intro_ (own_keep HOC.out ka (fun _ _ h => h))
              have HKD := Hid.intro_ (HKC.out.then_ ka)
              have hsz := HKD.out.size
              clear hwa ka x0 x1
              go_wp2_with (at_builtin; refine wpList_append_own_at _ rfl (.tmp 81) (.tmp 83) 329 rfl w2.heap.size 331 ip (.agg #[.int .u64 0, .int .u64 0]) 2 16 Tryz.underlying329 hip hz0 hz1 hz2 rfl (by decide) (.slice C 0 cc) 0 (prCells out) (by simp [Act.eval]) (own_keep HOD.out ((Keep.refl Nil _).alloc _) (fun g _ h => h)) ⟨wa2.heap.size, 0, none⟩ 1 1 [.int .u64 (x.1 : Int), .int .u64 (x.2 : Int)] (by simp [Act.eval]) rfl (news_new rfl) (by simp [Value.oneCell']) (by unfold maxLen; omega) (by omega) (by simp; omega) ?_; intro s1 w5 ho5 hg5 _ hs5)
              have k5 : Keep Nil w2 w5 := keep_own (HKD.out.alloc _) (own_keep HOD.out ((Keep.refl Nil _).alloc _) (fun g _ h => h)) (Nat.le_refl _) (Keep.of_grown hg5)
              obtain ⟨C5, c5, hv5⟩ := own_form ho5
              subst hv5
              have HO5 := Hid.intro_ ho5
              have HK5 := Hid.intro_ k5
              clear ho5 hg5 hs5 k5
              go_roundw
              case rel => exact ⟨p + 1, q, 0 + 1, C5, c5, out ++ [x], rfl, by go_num, by go_num, by have := HSX.out.li; have := HN1.out; omega, by have := HSX.out.lj; have := HN2.out; omega, by have := HSX.out.sum; omega, Hid.intro_ (by rw [List.length_append, ← HMM.out]; rfl), Hid.intro_ (by rw [← HAD.out]; exact HSX.out.go _ HMG.out), Hid.intro_ (by rw [prCells_app]; exact HO5.out), HK5⟩
              case measure => have h1 := HSX.out.sum; have h2 := HSX.out.li; have h3 := HSX.out.lj; have h4 := HN1.out; have h5 := HN2.out; simp [intOf]; omega
            · obtain ⟨k, rfl⟩ : ∃ k, m = k + 1 := ⟨m - 1, by omega⟩
              obtain ⟨y, hy⟩ : ∃ y, out[k]? = some y := ⟨_, List.getElem?_eq_getElem (by have := HMM.out; omega)⟩
              obtain ⟨gC, oC, hCe, y0, y1⟩ := pr_at (own_rd HOC.out) hy (own_le HOC.out).2
              subst hCe
              have hlast : out.getLast? = some y := by rw [List.getLast?_eq_getElem?, ← HMM.out]; exact hy
              have hwk : IntKind.i64.wrap ((k : Int) + 1 - 1) = (k : Int) := by rw [IntKind.wrap_i64]; omega
              have hwk2 : ((k : Int) + 1 - 1) = (k : Int) := by omega
              have hk0 : (0 : Int) ≤ (k : Int) := by omega
              have hk1 : (k : Int) < (k : Int) + 1 := by omega
              have hk2 : k < k + 1 := by omega
              have hmz : ((k : Int) + 1 == 0) = false := by
                have : ¬ (k : Int) + 1 = 0 := by omega
                simpa using this
              clear hm0 hy
              by_cases he : y = x
              · subst he
                have HAD := Hid.intro_ (show addP out y = out by unfold addP; rw [hlast, if_pos rfl])
                clear hlast
                go_quiet (fail)
                obtain ⟨wa2, ka, hwa⟩ : ∃ wa2, Keep Nil wc wa2 ∧ wa2 = wc.drewN nq := ⟨_, (Keep.refl Nil wc).drewN nq, rfl⟩
                rw [← hwa]
                have HOD := Hid.intro_ (own_keep HOC.out ka (fun _ _ h => h))
                have HKD := Hid.intro_ (HKC.out.then_ ka)
                clear hwa ka x0 x1 y0 y1
                go_wp2_with fail
                go_roundw
                case rel => exact ⟨p + 1, q, k + 1, some ⟨gC, oC, none⟩, cc, out, rfl, by go_num, by go_num, by have := HSX.out.li; have := HN1.out; omega, by have := HSX.out.lj; have := HN2.out; omega, by have := HSX.out.sum; omega, HMM, Hid.intro_ (by rw [← HAD.out]; exact HSX.out.go _ HMG.out), HOD, HKD⟩
                case measure => have h1 := HSX.out.sum; have h2 := HSX.out.li; have h3 := HSX.out.lj; have h4 := HN1.out; have h5 := HN2.out; simp [intOf]; omega
              · have HAD := Hid.intro_ (show addP out x = out ++ [x] by unfold addP; rw [hlast, if_neg (by simpa using he)])
                have HNE := Hid.intro_ he
                have hnq := neq_pr he
                clear hlast he
                go_quiet (fail)
                obtain ⟨wa2, ka, hwa⟩ : ∃ wa2, Keep Nil wc wa2 ∧ wa2 = wc.drewN nq := ⟨_, (Keep.refl Nil wc).drewN nq, rfl⟩
                rw [← hwa]
                have v0 : wa2.cell? ⟨wr.heap.size, 0, none⟩ = some (.int .u64 (x.1 : Int)) := cell_keep x0 ka (fun h => h)
                have v1 : wa2.cell? ⟨wr.heap.size, 1, none⟩ = some (.int .u64 (x.2 : Int)) := cell_keep x1 ka (fun h => h)
                have HOD := Hid.intro_ (own_keep HOC.out ka (fun _ _ h => h))
                have HKD := Hid.intro_ (HKC.out.then_ ka)
                have hsz := HKD.out.size
                clear hwa ka x0 x1 y0 y1
                go_wp2_with (at_builtin; refine wpList_append_own_at _ rfl (.tmp 81) (.tmp 83) 329 rfl w2.heap.size 331 ip (.agg #[.int .u64 0, .int .u64 0]) 2 16 Tryz.underlying329 hip hz0 hz1 hz2 rfl (by decide) (.slice (some ⟨gC, oC, none⟩) (k + 1) cc) (k + 1) (prCells out) (by simp [Act.eval]) (own_keep HOD.out ((Keep.refl Nil _).alloc _) (fun g _ h => h)) ⟨wa2.heap.size, 0, none⟩ 1 1 [.int .u64 (x.1 : Int), .int .u64 (x.2 : Int)] (by simp [Act.eval]) rfl (news_new rfl) (by simp [Value.oneCell']) (by unfold maxLen; omega) (by omega) (by simp; omega) ?_; intro s1 w5 ho5 hg5 _ hs5)
                have k5 : Keep Nil w2 w5 := keep_own (HKD.out.alloc _) (own_keep HOD.out ((Keep.refl Nil _).alloc _) (fun g _ h => h)) (Nat.le_refl _) (Keep.of_grown hg5)
                obtain ⟨C5, c5, hv5⟩ := own_form ho5
                subst hv5
                have HO5 := Hid.intro_ ho5
                have HK5 := Hid.intro_ k5
                clear ho5 hg5 hs5 k5
                go_roundw
                case rel => exact ⟨p + 1, q, k + 1 + 1, C5, c5, out ++ [x], rfl, by go_num, by go_num, by have := HSX.out.li; have := HN1.out; omega, by have := HSX.out.lj; have := HN2.out; omega, by have := HSX.out.sum; omega, Hid.intro_ (by rw [List.length_append, ← HMM.out]; rfl), Hid.intro_ (by rw [← HAD.out]; exact HSX.out.go _ HMG.out), Hid.intro_ (by rw [prCells_app]; exact HO5.out), HK5⟩
                case measure => have h1 := HSX.out.sum; have h2 := HSX.out.li; have h3 := HSX.out.lj; have h4 := HN1.out; have h5 := HN2.out; simp [intOf]; omega
          · have hqn2 : q < n2 := by omega
            obtain ⟨y, hy⟩ : ∃ y, b[q]? = some y := ⟨_, List.getElem?_eq_getElem (by have := HN2.out; omega)⟩
            obtain ⟨gb, ob, hBe, b0, b1⟩ := pr_at HRB.out hy HS2.out
            subst hBe
            have hqe : ((q : Int) == (n2 : Int)) = false := by
              have : ¬ (q : Int) = (n2 : Int) := by omega
              simpa using this
            have hqi : (q : Int) < (n2 : Int) := by omega
            have hq0 : (0 : Int) ≤ (q : Int) := by omega
            have HY := Hid.intro_ hy
            have HLB := Hid.intro_ (show gb < wr.heap.size from by
              obtain ⟨g9, o9, e9, h9, _⟩ := pr_at (HR2.out.keep HKZ.out (fun _ _ _ h => h)) hy HS2.out
              injection e9 with e9
              injection e9 with e9 e10
              rw [e9]
              exact cell_lt h9)
            clear hy
            have HBE := Hid.intro_ (below_any x y W1.drew)
            by_cases hlt : P2.lt x y
            · rw [decide_eq_true hlt] at HBE
              have HSX := Hid.intro_ (show SrtX a b p q (p + 1) q x from ⟨fun o2 hM => hM.left HRSA.out HRSB.out HX.out (fun y hy => by rw [HY.out] at hy; injection hy with hy; rw [← hy]; exact .inr hlt), by omega, by rw [← HN1.out]; omega, by rw [← HN2.out]; omega⟩)
              have HLT := Hid.intro_ hlt
              clear hlt
              go_upto_region 10 with (fail)
              rw [← HW1.out]
              go_region_held3 (fun w' => w'.cell? ⟨ga, oa + p * 2, none⟩ = some (.int .u64 (x.1 : Int)) ∧ w'.cell? ⟨ga, oa + p * 2 + 1, none⟩ = some (.int .u64 (x.2 : Int)) ∧ w'.cell? ⟨gb, ob + q * 2, none⟩ = some (.int .u64 (y.1 : Int)) ∧ w'.cell? ⟨gb, ob + q * 2 + 1, none⟩ = some (.int .u64 (y.2 : Int)))
                (first | exact ⟨a0, a1, b0, b1⟩ | exact hS2.out | go_keep)
                (first
                  | (go_at_call 259; refine HBE.out.mono ?_; rintro e wb ⟨rfl, kb⟩
                     have hS2 := Hid.intro_ (And.intro (cell_keep (w := W1.drew) a0 kb (fun h => h)) (And.intro (cell_keep (w := W1.drew) a1 kb (fun h => h)) (And.intro (cell_keep (w := W1.drew) b0 kb (fun h => h)) (cell_keep (w := W1.drew) b1 kb (fun h => h)))))
                     have KB := Hid.intro_ ((Keep.refl Nil W1).drew.then_ kb)
                     clear kb))
              obtain ⟨wa, ka, hwa⟩ : ∃ wa, Keep Nil W1 wa ∧ wa = wb := ⟨_, KB.out, rfl⟩
              rw [← hwa]
              have s0 : wa.cell? ⟨ga, oa + p * 2, none⟩ = some (.int .u64 (x.1 : Int)) := cell_keep a0 ka (fun h => h)
              have s1 : wa.cell? ⟨ga, oa + p * 2 + 1, none⟩ = some (.int .u64 (x.2 : Int)) := cell_keep a1 ka (fun h => h)
              have HKA := Hid.intro_ ka
              have hbw := HB1.out.keep ka (fun h => h)
              have u0 : wa.cell? ⟨wr.heap.size, 0, none⟩ = some (.int .u64 0) := hbw.at_ 0
              have u1 : wa.cell? ⟨wr.heap.size, 1, none⟩ = some (.int .u64 0) := hbw.at_ 1
              have uf := hbw.fr 0
              have uf1 := hbw.fr 1
              have hne0 : ¬ wr.heap.size = ga := by have := cell_lt s0; have := HLA.out; omega
              have hne1 : ¬ ga = wr.heap.size := fun e => hne0 e.symm
              have HBW := Hid.intro_ hbw
              clear hwa ka a0 a1 t0 t1 tf tf1 hbw
              go_wp2_with fail
              obtain ⟨wc, hwc⟩ : ∃ wc, wc = (wa.setCell ⟨wr.heap.size, 0, none⟩ (.int .u64 (x.1 : Int))).setCell ⟨wr.heap.size, 1, none⟩ (.int .u64 (x.2 : Int)) := ⟨_, rfl⟩
              rw [← hwc]
              have bT : Blk wc wr.heap.size 331 #[.int .u64 (x.1 : Int), .int .u64 (x.2 : Int)] := by rw [hwc]; exact (HBW.out.set_ 0 _).set_ 1 _
              have kT : Keep (fun z => z = wr.heap.size) W1 wc := by rw [hwc]; exact ((HKA.out.mono (G := fun z => z = wr.heap.size) (fun _ _ h => h.elim)).setCell (p := ⟨wr.heap.size, 0, none⟩) (fun _ => rfl) _).setCell (p := ⟨wr.heap.size, 1, none⟩) (fun _ => rfl) _
              clear hwc s0 s1 u0 u1 uf uf1 hne0 hne1
              have kw : Keep Nil wr wc := HKW.out.trans kT (fun z hz e => by have e : z = wr.heap.size := e; omega)
              have HKC := Hid.intro_ (HKZ.out.then_ kw)
              have x0 : wc.cell? ⟨wr.heap.size, 0, none⟩ = some (.int .u64 (x.1 : Int)) := bT.at_ 0
              have x1 : wc.cell? ⟨wr.heap.size, 1, none⟩ = some (.int .u64 (x.2 : Int)) := bT.at_ 1
              have HOC := Hid.intro_ (own_keep HO.out kw (fun _ _ h => h))
              clear bT kT kw
              rcases Nat.eq_zero_or_pos m with hm0 | hm0
              · subst hm0
                have HAD := Hid.intro_ (show addP out x = out ++ [x] by
                  have : out = [] := List.length_eq_zero_iff.1 HMM.out.symm
                  rw [this]
                  rfl)
                go_quiet (fail)
                obtain ⟨wa2, ka, hwa⟩ : ∃ wa2, Keep Nil wc wa2 ∧ wa2 = wc.drewN nq := ⟨_, (Keep.refl Nil wc).drewN nq, rfl⟩
                rw [← hwa]
                have v0 : wa2.cell? ⟨wr.heap.size, 0, none⟩ = some (.int .u64 (x.1 : Int)) := cell_keep x0 ka (fun h => h)
                have v1 : wa2.cell? ⟨wr.heap.size, 1, none⟩ = some (.int .u64 (x.2 : Int)) := cell_keep x1 ka (fun h => h)
                have HOD := Hid.intro_ (own_keep HOC.out ka (fun _ _ h => h))
                have HKD := Hid.intro_ (HKC.out.then_ ka)
                have hsz := HKD.out.size
                clear hwa ka x0 x1
                go_wp2_with (at_builtin; refine wpList_append_own_at _ rfl (.tmp 81) (.tmp 83) 329 rfl w2.heap.size 331 ip (.agg #[.int .u64 0, .int .u64 0]) 2 16 Tryz.underlying329 hip hz0 hz1 hz2 rfl (by decide) (.slice C 0 cc) 0 (prCells out) (by simp [Act.eval]) (own_keep HOD.out ((Keep.refl Nil _).alloc _) (fun g _ h => h)) ⟨wa2.heap.size, 0, none⟩ 1 1 [.int .u64 (x.1 : Int), .int .u64 (x.2 : Int)] (by simp [Act.eval]) rfl (news_new rfl) (by simp [Value.oneCell']) (by unfold maxLen; omega) (by omega) (by simp; omega) ?_; intro s1 w5 ho5 hg5 _ hs5)
                have k5 : Keep Nil w2 w5 := keep_own (HKD.out.alloc _) (own_keep HOD.out ((Keep.refl Nil _).alloc _) (fun g _ h => h)) (Nat.le_refl _) (Keep.of_grown hg5)
                obtain ⟨C5, c5, hv5⟩ := own_form ho5
                subst hv5
                have HO5 := Hid.intro_ ho5
                have HK5 := Hid.intro_ k5
                clear ho5 hg5 hs5 k5
                go_roundw
                case rel => exact ⟨p + 1, q, 0 + 1, C5, c5, out ++ [x], rfl, by go_num, by go_num, by have := HSX.out.li; have := HN1.out; omega, by have := HSX.out.lj; have := HN2.out; omega, by have := HSX.out.sum; omega, Hid.intro_ (by rw [List.length_append, ← HMM.out]; rfl), Hid.intro_ (by rw [← HAD.out]; exact HSX.out.go _ HMG.out), Hid.intro_ (by rw [prCells_app]; exact HO5.out), HK5⟩
                case measure => have h1 := HSX.out.sum; have h2 := HSX.out.li; have h3 := HSX.out.lj; have h4 := HN1.out; have h5 := HN2.out; simp [intOf]; omega
              · obtain ⟨k, rfl⟩ : ∃ k, m = k + 1 := ⟨m - 1, by omega⟩
                obtain ⟨y, hy⟩ : ∃ y, out[k]? = some y := ⟨_, List.getElem?_eq_getElem (by have := HMM.out; omega)⟩
                obtain ⟨gC, oC, hCe, y0, y1⟩ := pr_at (own_rd HOC.out) hy (own_le HOC.out).2
                subst hCe
                have hlast : out.getLast? = some y := by rw [List.getLast?_eq_getElem?, ← HMM.out]; exact hy
                have hwk : IntKind.i64.wrap ((k : Int) + 1 - 1) = (k : Int) := by rw [IntKind.wrap_i64]; omega
                have hwk2 : ((k : Int) + 1 - 1) = (k : Int) := by omega
                have hk0 : (0 : Int) ≤ (k : Int) := by omega
                have hk1 : (k : Int) < (k : Int) + 1 := by omega
                have hk2 : k < k + 1 := by omega
                have hmz : ((k : Int) + 1 == 0) = false := by
                  have : ¬ (k : Int) + 1 = 0 := by omega
                  simpa using this
                clear hm0 hy
                by_cases he : y = x
                · subst he
                  have HAD := Hid.intro_ (show addP out y = out by unfold addP; rw [hlast, if_pos rfl])
                  clear hlast
                  go_quiet (fail)
                  obtain ⟨wa2, ka, hwa⟩ : ∃ wa2, Keep Nil wc wa2 ∧ wa2 = wc.drewN nq := ⟨_, (Keep.refl Nil wc).drewN nq, rfl⟩
                  rw [← hwa]
                  have HOD := Hid.intro_ (own_keep HOC.out ka (fun _ _ h => h))
                  have HKD := Hid.intro_ (HKC.out.then_ ka)
                  clear hwa ka x0 x1 y0 y1
                  go_wp2_with fail
                  go_roundw
                  case rel => exact ⟨p + 1, q, k + 1, some ⟨gC, oC, none⟩, cc, out, rfl, by go_num, by go_num, by have := HSX.out.li; have := HN1.out; omega, by have := HSX.out.lj; have := HN2.out; omega, by have := HSX.out.sum; omega, HMM, Hid.intro_ (by rw [← HAD.out]; exact HSX.out.go _ HMG.out), HOD, HKD⟩
                  case measure => have h1 := HSX.out.sum; have h2 := HSX.out.li; have h3 := HSX.out.lj; have h4 := HN1.out; have h5 := HN2.out; simp [intOf]; omega
                · have HAD := Hid.intro_ (show addP out x = out ++ [x] by unfold addP; rw [hlast, if_neg (by simpa using he)])
                  have HNE := Hid.intro_ he
                  have hnq := neq_pr he
                  clear hlast he
                  go_quiet (fail)
                  obtain ⟨wa2, ka, hwa⟩ : ∃ wa2, Keep Nil wc wa2 ∧ wa2 = wc.drewN nq := ⟨_, (Keep.refl Nil wc).drewN nq, rfl⟩
                  rw [← hwa]
                  have v0 : wa2.cell? ⟨wr.heap.size, 0, none⟩ = some (.int .u64 (x.1 : Int)) := cell_keep x0 ka (fun h => h)
                  have v1 : wa2.cell? ⟨wr.heap.size, 1, none⟩ = some (.int .u64 (x.2 : Int)) := cell_keep x1 ka (fun h => h)
                  have HOD := Hid.intro_ (own_keep HOC.out ka (fun _ _ h => h))
                  have HKD := Hid.intro_ (HKC.out.then_ ka)
                  have hsz := HKD.out.size
                  clear hwa ka x0 x1 y0 y1
                  go_wp2_with (at_builtin; refine wpList_append_own_at _ rfl (.tmp 81) (.tmp 83) 329 rfl w2.heap.size 331 ip (.agg #[.int .u64 0, .int .u64 0]) 2 16 Tryz.underlying329 hip hz0 hz1 hz2 rfl (by decide) (.slice (some ⟨gC, oC, none⟩) (k + 1) cc) (k + 1) (prCells out) (by simp [Act.eval]) (own_keep HOD.out ((Keep.refl Nil _).alloc _) (fun g _ h => h)) ⟨wa2.heap.size, 0, none⟩ 1 1 [.int .u64 (x.1 : Int), .int .u64 (x.2 : Int)] (by simp [Act.eval]) rfl (news_new rfl) (by simp [Value.oneCell']) (by unfold maxLen; omega) (by omega) (by simp; omega) ?_; intro s1 w5 ho5 hg5 _ hs5)
                  have k5 : Keep Nil w2 w5 := keep_own (HKD.out.alloc _) (own_keep HOD.out ((Keep.refl Nil _).alloc _) (fun g _ h => h)) (Nat.le_refl _) (Keep.of_grown hg5)
                  obtain ⟨C5, c5, hv5⟩ := own_form ho5
                  subst hv5
                  have HO5 := Hid.intro_ ho5
                  have HK5 := Hid.intro_ k5
                  clear ho5 hg5 hs5 k5
                  go_roundw
                  case rel => exact ⟨p + 1, q, k + 1 + 1, C5, c5, out ++ [x], rfl, by go_num, by go_num, by have := HSX.out.li; have := HN1.out; omega, by have := HSX.out.lj; have := HN2.out; omega, by have := HSX.out.sum; omega, Hid.intro_ (by rw [List.length_append, ← HMM.out]; rfl), Hid.intro_ (by rw [← HAD.out]; exact HSX.out.go _ HMG.out), Hid.intro_ (by rw [prCells_app]; exact HO5.out), HK5⟩
                  case measure => have h1 := HSX.out.sum; have h2 := HSX.out.li; have h3 := HSX.out.lj; have h4 := HN1.out; have h5 := HN2.out; simp [intOf]; omega
            · rw [decide_eq_false hlt] at HBE
              have HSX := Hid.intro_ (show SrtX a b p q p (q + 1) y from ⟨fun o2 hM => hM.right HRSA.out HRSB.out HY.out (fun x hx => by rw [HX.out] at hx; injection hx with hx; rw [← hx]; exact hlt), by omega, by rw [← HN1.out]; omega, by rw [← HN2.out]; omega⟩)
              have HLT := Hid.intro_ hlt
              clear hlt
              go_upto_region 10 with (fail)
              rw [← HW1.out]
              go_region_held3 (fun w' => w'.cell? ⟨ga, oa + p * 2, none⟩ = some (.int .u64 (x.1 : Int)) ∧ w'.cell? ⟨ga, oa + p * 2 + 1, none⟩ = some (.int .u64 (x.2 : Int)) ∧ w'.cell? ⟨gb, ob + q * 2, none⟩ = some (.int .u64 (y.1 : Int)) ∧ w'.cell? ⟨gb, ob + q * 2 + 1, none⟩ = some (.int .u64 (y.2 : Int)))
                (first | exact ⟨a0, a1, b0, b1⟩ | exact hS2.out | go_keep)
                (first
                  | (go_at_call 259; refine HBE.out.mono ?_; rintro e wb ⟨rfl, kb⟩
                     have hS2 := Hid.intro_ (And.intro (cell_keep (w := W1.drew) a0 kb (fun h => h)) (And.intro (cell_keep (w := W1.drew) a1 kb (fun h => h)) (And.intro (cell_keep (w := W1.drew) b0 kb (fun h => h)) (cell_keep (w := W1.drew) b1 kb (fun h => h)))))
                     have KB := Hid.intro_ ((Keep.refl Nil W1).drew.then_ kb)
                     clear kb))
              obtain ⟨wa, ka, hwa⟩ : ∃ wa, Keep Nil W1 wa ∧ wa = wb := ⟨_, KB.out, rfl⟩
              rw [← hwa]
              have s0 : wa.cell? ⟨gb, ob + q * 2, none⟩ = some (.int .u64 (y.1 : Int)) := cell_keep b0 ka (fun h => h)
              have s1 : wa.cell? ⟨gb, ob + q * 2 + 1, none⟩ = some (.int .u64 (y.2 : Int)) := cell_keep b1 ka (fun h => h)
              have HKA := Hid.intro_ ka
              have hbw := HB1.out.keep ka (fun h => h)
              have u0 : wa.cell? ⟨wr.heap.size, 0, none⟩ = some (.int .u64 0) := hbw.at_ 0
              have u1 : wa.cell? ⟨wr.heap.size, 1, none⟩ = some (.int .u64 0) := hbw.at_ 1
              have uf := hbw.fr 0
              have uf1 := hbw.fr 1
              have hne0 : ¬ wr.heap.size = gb := by have := cell_lt s0; have := HLB.out; omega
              have hne1 : ¬ gb = wr.heap.size := fun e => hne0 e.symm
              have HBW := Hid.intro_ hbw
              clear hwa ka b0 b1 t0 t1 tf tf1 hbw
              go_wp2_with fail
              obtain ⟨wc, hwc⟩ : ∃ wc, wc = (wa.setCell ⟨wr.heap.size, 0, none⟩ (.int .u64 (y.1 : Int))).setCell ⟨wr.heap.size, 1, none⟩ (.int .u64 (y.2 : Int)) := ⟨_, rfl⟩
              rw [← hwc]
              have bT : Blk wc wr.heap.size 331 #[.int .u64 (y.1 : Int), .int .u64 (y.2 : Int)] := by rw [hwc]; exact (HBW.out.set_ 0 _).set_ 1 _
              have kT : Keep (fun z => z = wr.heap.size) W1 wc := by rw [hwc]; exact ((HKA.out.mono (G := fun z => z = wr.heap.size) (fun _ _ h => h.elim)).setCell (p := ⟨wr.heap.size, 0, none⟩) (fun _ => rfl) _).setCell (p := ⟨wr.heap.size, 1, none⟩) (fun _ => rfl) _
              clear hwc s0 s1 u0 u1 uf uf1 hne0 hne1
              have kw : Keep Nil wr wc := HKW.out.trans kT (fun z hz e => by have e : z = wr.heap.size := e; omega)
              have HKC := Hid.intro_ (HKZ.out.then_ kw)
              have x0 : wc.cell? ⟨wr.heap.size, 0, none⟩ = some (.int .u64 (y.1 : Int)) := bT.at_ 0
              have x1 : wc.cell? ⟨wr.heap.size, 1, none⟩ = some (.int .u64 (y.2 : Int)) := bT.at_ 1
              have HOC := Hid.intro_ (own_keep HO.out kw (fun _ _ h => h))
              clear bT kT kw
              rcases Nat.eq_zero_or_pos m with hm0 | hm0
              · subst hm0
                have HAD := Hid.intro_ (show addP out y = out ++ [y] by
                  have : out = [] := List.length_eq_zero_iff.1 HMM.out.symm
                  rw [this]
                  rfl)
                go_quiet (fail)
                obtain ⟨wa2, ka, hwa⟩ : ∃ wa2, Keep Nil wc wa2 ∧ wa2 = wc.drewN nq := ⟨_, (Keep.refl Nil wc).drewN nq, rfl⟩
                rw [← hwa]
                have v0 : wa2.cell? ⟨wr.heap.size, 0, none⟩ = some (.int .u64 (y.1 : Int)) := cell_keep x0 ka (fun h => h)
                have v1 : wa2.cell? ⟨wr.heap.size, 1, none⟩ = some (.int .u64 (y.2 : Int)) := cell_keep x1 ka (fun h => h)
                have HOD := Hid.intro_ (own_keep HOC.out ka (fun _ _ h => h))
                have HKD := Hid.intro_ (HKC.out.then_ ka)
                have hsz := HKD.out.size
                clear hwa ka x0 x1
                go_wp2_with (at_builtin; refine wpList_append_own_at _ rfl (.tmp 81) (.tmp 83) 329 rfl w2.heap.size 331 ip (.agg #[.int .u64 0, .int .u64 0]) 2 16 Tryz.underlying329 hip hz0 hz1 hz2 rfl (by decide) (.slice C 0 cc) 0 (prCells out) (by simp [Act.eval]) (own_keep HOD.out ((Keep.refl Nil _).alloc _) (fun g _ h => h)) ⟨wa2.heap.size, 0, none⟩ 1 1 [.int .u64 (y.1 : Int), .int .u64 (y.2 : Int)] (by simp [Act.eval]) rfl (news_new rfl) (by simp [Value.oneCell']) (by unfold maxLen; omega) (by omega) (by simp; omega) ?_; intro s1 w5 ho5 hg5 _ hs5)
                have k5 : Keep Nil w2 w5 := keep_own (HKD.out.alloc _) (own_keep HOD.out ((Keep.refl Nil _).alloc _) (fun g _ h => h)) (Nat.le_refl _) (Keep.of_grown hg5)
                obtain ⟨C5, c5, hv5⟩ := own_form ho5
                subst hv5
                have HO5 := Hid.intro_ ho5
                have HK5 := Hid.intro_ k5
                clear ho5 hg5 hs5 k5
                go_roundw
                case rel => exact ⟨p, q + 1, 0 + 1, C5, c5, out ++ [y], rfl, by go_num, by go_num, by have := HSX.out.li; have := HN1.out; omega, by have := HSX.out.lj; have := HN2.out; omega, by have := HSX.out.sum; omega, Hid.intro_ (by rw [List.length_append, ← HMM.out]; rfl), Hid.intro_ (by rw [← HAD.out]; exact HSX.out.go _ HMG.out), Hid.intro_ (by rw [prCells_app]; exact HO5.out), HK5⟩
                case measure => have h1 := HSX.out.sum; have h2 := HSX.out.li; have h3 := HSX.out.lj; have h4 := HN1.out; have h5 := HN2.out; simp [intOf]; omega
              · obtain ⟨k, rfl⟩ : ∃ k, m = k + 1 := ⟨m - 1, by omega⟩
                obtain ⟨zz, hy⟩ : ∃ zz, out[k]? = some zz := ⟨_, List.getElem?_eq_getElem (by have := HMM.out; omega)⟩
                obtain ⟨gC, oC, hCe, y0, y1⟩ := pr_at (own_rd HOC.out) hy (own_le HOC.out).2
                subst hCe
                have hlast : out.getLast? = some zz := by rw [List.getLast?_eq_getElem?, ← HMM.out]; exact hy
                have hwk : IntKind.i64.wrap ((k : Int) + 1 - 1) = (k : Int) := by rw [IntKind.wrap_i64]; omega
                have hwk2 : ((k : Int) + 1 - 1) = (k : Int) := by omega
                have hk0 : (0 : Int) ≤ (k : Int) := by omega
                have hk1 : (k : Int) < (k : Int) + 1 := by omega
                have hk2 : k < k + 1 := by omega
                have hmz : ((k : Int) + 1 == 0) = false := by
                  have : ¬ (k : Int) + 1 = 0 := by omega
                  simpa using this
                clear hm0 hy
                by_cases he : zz = y
                · subst he
                  have HAD := Hid.intro_ (show addP out zz = out by unfold addP; rw [hlast, if_pos rfl])
                  clear hlast
                  go_quiet (fail)
                  obtain ⟨wa2, ka, hwa⟩ : ∃ wa2, Keep Nil wc wa2 ∧ wa2 = wc.drewN nq := ⟨_, (Keep.refl Nil wc).drewN nq, rfl⟩
                  rw [← hwa]
                  have HOD := Hid.intro_ (own_keep HOC.out ka (fun _ _ h => h))
                  have HKD := Hid.intro_ (HKC.out.then_ ka)
                  clear hwa ka x0 x1 y0 y1
                  go_wp2_with fail
                  go_roundw
                  case rel => exact ⟨p, q + 1, k + 1, some ⟨gC, oC, none⟩, cc, out, rfl, by go_num, by go_num, by have := HSX.out.li; have := HN1.out; omega, by have := HSX.out.lj; have := HN2.out; omega, by have := HSX.out.sum; omega, HMM, Hid.intro_ (by rw [← HAD.out]; exact HSX.out.go _ HMG.out), HOD, HKD⟩
                  case measure => have h1 := HSX.out.sum; have h2 := HSX.out.li; have h3 := HSX.out.lj; have h4 := HN1.out; have h5 := HN2.out; simp [intOf]; omega
                · have HAD := Hid.intro_ (show addP out y = out ++ [y] by unfold addP; rw [hlast, if_neg (by simpa using he)])
                  have HNE := Hid.intro_ he
                  have hnq := neq_pr he
                  clear hlast he
                  go_quiet (fail)
                  obtain ⟨wa2, ka, hwa⟩ : ∃ wa2, Keep Nil wc wa2 ∧ wa2 = wc.drewN nq := ⟨_, (Keep.refl Nil wc).drewN nq, rfl⟩
                  rw [← hwa]
                  have v0 : wa2.cell? ⟨wr.heap.size, 0, none⟩ = some (.int .u64 (y.1 : Int)) := cell_keep x0 ka (fun h => h)
                  have v1 : wa2.cell? ⟨wr.heap.size, 1, none⟩ = some (.int .u64 (y.2 : Int)) := cell_keep x1 ka (fun h => h)
                  have HOD := Hid.intro_ (own_keep HOC.out ka (fun _ _ h => h))
                  have HKD := Hid.intro_ (HKC.out.then_ ka)
                  have hsz := HKD.out.size
                  clear hwa ka x0 x1 y0 y1
                  go_wp2_with (at_builtin; refine wpList_append_own_at _ rfl (.tmp 81) (.tmp 83) 329 rfl w2.heap.size 331 ip (.agg #[.int .u64 0, .int .u64 0]) 2 16 Tryz.underlying329 hip hz0 hz1 hz2 rfl (by decide) (.slice (some ⟨gC, oC, none⟩) (k + 1) cc) (k + 1) (prCells out) (by simp [Act.eval]) (own_keep HOD.out ((Keep.refl Nil _).alloc _) (fun g _ h => h)) ⟨wa2.heap.size, 0, none⟩ 1 1 [.int .u64 (y.1 : Int), .int .u64 (y.2 : Int)] (by simp [Act.eval]) rfl (news_new rfl) (by simp [Value.oneCell']) (by unfold maxLen; omega) (by omega) (by simp; omega) ?_; intro s1 w5 ho5 hg5 _ hs5)
                  have k5 : Keep Nil w2 w5 := keep_own (HKD.out.alloc _) (own_keep HOD.out ((Keep.refl Nil _).alloc _) (fun g _ h => h)) (Nat.le_refl _) (Keep.of_grown hg5)
                  obtain ⟨C5, c5, hv5⟩ := own_form ho5
                  subst hv5
                  have HO5 := Hid.intro_ ho5
                  have HK5 := Hid.intro_ k5
                  clear ho5 hg5 hs5 k5
                  go_roundw
                  case rel => exact ⟨p, q + 1, k + 1 + 1, C5, c5, out ++ [y], rfl, by go_num, by go_num, by have := HSX.out.li; have := HN1.out; omega, by have := HSX.out.lj; have := HN2.out; omega, by have := HSX.out.sum; omega, Hid.intro_ (by rw [List.length_append, ← HMM.out]; rfl), Hid.intro_ (by rw [← HAD.out]; exact HSX.out.go _ HMG.out), Hid.intro_ (by rw [prCells_app]; exact HO5.out), HK5⟩
                  case measure => have h1 := HSX.out.sum; have h2 := HSX.out.li; have h3 := HSX.out.lj; have h4 := HN1.out; have h5 := HN2.out; simp [intOf]; omega
        · have hpi : ¬ (p : Int) < (n1 : Int) := by omega
          by_cases hqn2 : q < n2
          · obtain ⟨y, hy⟩ : ∃ y, b[q]? = some y := ⟨_, List.getElem?_eq_getElem (by have := HN2.out; omega)⟩
            obtain ⟨gb, ob, hBe, b0, b1⟩ := pr_at HRB.out hy HS2.out
            subst hBe
            have hqe : ((q : Int) == (n2 : Int)) = false := by
              have : ¬ (q : Int) = (n2 : Int) := by omega
              simpa using this
            have hqi : (q : Int) < (n2 : Int) := by omega
            have hq0 : (0 : Int) ≤ (q : Int) := by omega
            have HY := Hid.intro_ hy
            have HLB := Hid.intro_ (show gb < wr.heap.size from by
              obtain ⟨g9, o9, e9, h9, _⟩ := pr_at (HR2.out.keep HKZ.out (fun _ _ _ h => h)) hy HS2.out
              injection e9 with e9
              injection e9 with e9 e10
              rw [e9]
              exact cell_lt h9)
            clear hy
            have HSX := Hid.intro_ (show SrtX a b p q p (q + 1) y from ⟨fun o2 hM => hM.right HRSA.out HRSB.out HY.out (fun x hx => by rw [List.getElem?_eq_none (by rw [← HN1.out]; omega)] at hx; cases hx), by omega, by rw [← HN1.out]; omega, by rw [← HN2.out]; omega⟩)
            go_upto_region 10 with (fail)
            rw [← HW1.out]
            go_quiet (fail)
            obtain ⟨wa, ka, hwa⟩ : ∃ wa, Keep Nil W1 wa ∧ wa = W1.drewN nq := ⟨_, (Keep.refl Nil W1).drewN nq, rfl⟩
            rw [← hwa]
            have s0 : wa.cell? ⟨gb, ob + q * 2, none⟩ = some (.int .u64 (y.1 : Int)) := cell_keep b0 ka (fun h => h)
            have s1 : wa.cell? ⟨gb, ob + q * 2 + 1, none⟩ = some (.int .u64 (y.2 : Int)) := cell_keep b1 ka (fun h => h)
            have HKA := Hid.intro_ ka
            have hbw := HB1.out.keep ka (fun h => h)
            have u0 : wa.cell? ⟨wr.heap.size, 0, none⟩ = some (.int .u64 0) := hbw.at_ 0
            have u1 : wa.cell? ⟨wr.heap.size, 1, none⟩ = some (.int .u64 0) := hbw.at_ 1
            have uf := hbw.fr 0
            have uf1 := hbw.fr 1
            have hne0 : ¬ wr.heap.size = gb := by have := cell_lt s0; have := HLB.out; omega
            have hne1 : ¬ gb = wr.heap.size := fun e => hne0 e.symm
            have HBW := Hid.intro_ hbw
            clear hwa ka b0 b1 t0 t1 tf tf1 hbw
            go_wp2_with fail
            obtain ⟨wc, hwc⟩ : ∃ wc, wc = (wa.setCell ⟨wr.heap.size, 0, none⟩ (.int .u64 (y.1 : Int))).setCell ⟨wr.heap.size, 1, none⟩ (.int .u64 (y.2 : Int)) := ⟨_, rfl⟩
            rw [← hwc]
            have bT : Blk wc wr.heap.size 331 #[.int .u64 (y.1 : Int), .int .u64 (y.2 : Int)] := by rw [hwc]; exact (HBW.out.set_ 0 _).set_ 1 _
            have kT : Keep (fun z => z = wr.heap.size) W1 wc := by rw [hwc]; exact ((HKA.out.mono (G := fun z => z = wr.heap.size) (fun _ _ h => h.elim)).setCell (p := ⟨wr.heap.size, 0, none⟩) (fun _ => rfl) _).setCell (p := ⟨wr.heap.size, 1, none⟩) (fun _ => rfl) _
            clear hwc s0 s1 u0 u1 uf uf1 hne0 hne1
            have kw : Keep Nil wr wc := HKW.out.trans kT (fun z hz e => by have e : z = wr.heap.size := e; omega)
            have HKC := Hid.intro_ (HKZ.out.then_ kw)
            have x0 : wc.cell? ⟨wr.heap.size, 0, none⟩ = some (.int .u64 (y.1 : Int)) := bT.at_ 0
            have x1 : wc.cell? ⟨wr.heap.size, 1, none⟩ = some (.int .u64 (y.2 : Int)) := bT.at_ 1
            have HOC := Hid.intro_ (own_keep HO.out kw (fun _ _ h => h))
            clear bT kT kw
            rcases Nat.eq_zero_or_pos m with hm0 | hm0
            · subst hm0
              have HAD := Hid.intro_ (show addP out y = out ++ [y] by
                have : out = [] := List.length_eq_zero_iff.1 HMM.out.symm
                rw [this]
                rfl)
              go_quiet (fail)
              obtain ⟨wa2, ka, hwa⟩ : ∃ wa2, Keep Nil wc wa2 ∧ wa2 = wc.drewN nq := ⟨_, (Keep.refl Nil wc).drewN nq, rfl⟩
              rw [← hwa]
              have v0 : wa2.cell? ⟨wr.heap.size, 0, none⟩ = some (.int .u64 (y.1 : Int)) := cell_keep x0 ka (fun h => h)
              have v1 : wa2.cell? ⟨wr.heap.size, 1, none⟩ = some (.int .u64 (y.2 : Int)) := cell_keep x1 ka (fun h => h)
              have HOD := Hid.intro_ (own_keep HOC.out ka (fun _ _ h => h))
              have HKD := Hid.intro_ (HKC.out.then_ ka)
              have hsz := HKD.out.size
              clear hwa ka x0 x1
              go_wp2_with (at_builtin; refine wpList_append_own_at _ rfl (.tmp 81) (.tmp 83) 329 rfl w2.heap.size 331 ip (.agg #[.int .u64 0, .int .u64 0]) 2 16 Tryz.underlying329 hip hz0 hz1 hz2 rfl (by decide) (.slice C 0 cc) 0 (prCells out) (by simp [Act.eval]) (own_keep HOD.out ((Keep.refl Nil _).alloc _) (fun g _ h => h)) ⟨wa2.heap.size, 0, none⟩ 1 1 [.int .u64 (y.1 : Int), .int .u64 (y.2 : Int)] (by simp [Act.eval]) rfl (news_new rfl) (by simp [Value.oneCell']) (by unfold maxLen; omega) (by omega) (by simp; omega) ?_; intro s1 w5 ho5 hg5 _ hs5)
              have k5 : Keep Nil w2 w5 := keep_own (HKD.out.alloc _) (own_keep HOD.out ((Keep.refl Nil _).alloc _) (fun g _ h => h)) (Nat.le_refl _) (Keep.of_grown hg5)
              obtain ⟨C5, c5, hv5⟩ := own_form ho5
              subst hv5
              have HO5 := Hid.intro_ ho5
              have HK5 := Hid.intro_ k5
              clear ho5 hg5 hs5 k5
              go_roundw
              case rel => exact ⟨p, q + 1, 0 + 1, C5, c5, out ++ [y], rfl, by go_num, by go_num, by have := HSX.out.li; have := HN1.out; omega, by have := HSX.out.lj; have := HN2.out; omega, by have := HSX.out.sum; omega, Hid.intro_ (by rw [List.length_append, ← HMM.out]; rfl), Hid.intro_ (by rw [← HAD.out]; exact HSX.out.go _ HMG.out), Hid.intro_ (by rw [prCells_app]; exact HO5.out), HK5⟩
              case measure => have h1 := HSX.out.sum; have h2 := HSX.out.li; have h3 := HSX.out.lj; have h4 := HN1.out; have h5 := HN2.out; simp [intOf]; omega
            · obtain ⟨k, rfl⟩ : ∃ k, m = k + 1 := ⟨m - 1, by omega⟩
              obtain ⟨zz, hy⟩ : ∃ zz, out[k]? = some zz := ⟨_, List.getElem?_eq_getElem (by have := HMM.out; omega)⟩
              obtain ⟨gC, oC, hCe, y0, y1⟩ := pr_at (own_rd HOC.out) hy (own_le HOC.out).2
              subst hCe
              have hlast : out.getLast? = some zz := by rw [List.getLast?_eq_getElem?, ← HMM.out]; exact hy
              have hwk : IntKind.i64.wrap ((k : Int) + 1 - 1) = (k : Int) := by rw [IntKind.wrap_i64]; omega
              have hwk2 : ((k : Int) + 1 - 1) = (k : Int) := by omega
              have hk0 : (0 : Int) ≤ (k : Int) := by omega
              have hk1 : (k : Int) < (k : Int) + 1 := by omega
              have hk2 : k < k + 1 := by omega
              have hmz : ((k : Int) + 1 == 0) = false := by
                have : ¬ (k : Int) + 1 = 0 := by omega
                simpa using this
              clear hm0 hy
              by_cases he : zz = y
              · subst he
                have HAD := Hid.intro_ (show addP out zz = out by unfold addP; rw [hlast, if_pos rfl])
                clear hlast
                go_quiet (fail)
                obtain ⟨wa2, ka, hwa⟩ : ∃ wa2, Keep Nil wc wa2 ∧ wa2 = wc.drewN nq := ⟨_, (Keep.refl Nil wc).drewN nq, rfl⟩
                rw [← hwa]
                have HOD := Hid.intro_ (own_keep HOC.out ka (fun _ _ h => h))
                have HKD := Hid.intro_ (HKC.out.then_ ka)
                clear hwa ka x0 x1 y0 y1
                go_wp2_with fail
                go_roundw
                case rel => exact ⟨p, q + 1, k + 1, some ⟨gC, oC, none⟩, cc, out, rfl, by go_num, by go_num, by have := HSX.out.li; have := HN1.out; omega, by have := HSX.out.lj; have := HN2.out; omega, by have := HSX.out.sum; omega, HMM, Hid.intro_ (by rw [← HAD.out]; exact HSX.out.go _ HMG.out), HOD, HKD⟩
                case measure => have h1 := HSX.out.sum; have h2 := HSX.out.li; have h3 := HSX.out.lj; have h4 := HN1.out; have h5 := HN2.out; simp [intOf]; omega
              · have HAD := Hid.intro_ (show addP out y = out ++ [y] by unfold addP; rw [hlast, if_neg (by simpa using he)])
                have HNE := Hid.intro_ he
                have hnq := neq_pr he
                clear hlast he
                go_quiet (fail)
                obtain ⟨wa2, ka, hwa⟩ : ∃ wa2, Keep Nil wc wa2 ∧ wa2 = wc.drewN nq := ⟨_, (Keep.refl Nil wc).drewN nq, rfl⟩
                rw [← hwa]
                have v0 : wa2.cell? ⟨wr.heap.size, 0, none⟩ = some (.int .u64 (y.1 : Int)) := cell_keep x0 ka (fun h => h)
                have v1 : wa2.cell? ⟨wr.heap.size, 1, none⟩ = some (.int .u64 (y.2 : Int)) := cell_keep x1 ka (fun h => h)
                have HOD := Hid.intro_ (own_keep HOC.out ka (fun _ _ h => h))
                have HKD := Hid.intro_ (HKC.out.then_ ka)
                have hsz := HKD.out.size
                clear hwa ka x0 x1 y0 y1
                go_wp2_with (at_builtin; refine wpList_append_own_at _ rfl (.tmp 81) (.tmp 83) 329 rfl w2.heap.size 331 ip (.agg #[.int .u64 0, .int .u64 0]) 2 16 Tryz.underlying329 hip hz0 hz1 hz2 rfl (by decide) (.slice (some ⟨gC, oC, none⟩) (k + 1) cc) (k + 1) (prCells out) (by simp [Act.eval]) (own_keep HOD.out ((Keep.refl Nil _).alloc _) (fun g _ h => h)) ⟨wa2.heap.size, 0, none⟩ 1 1 [.int .u64 (y.1 : Int), .int .u64 (y.2 : Int)] (by simp [Act.eval]) rfl (news_new rfl) (by simp [Value.oneCell']) (by unfold maxLen; omega) (by omega) (by simp; omega) ?_; intro s1 w5 ho5 hg5 _ hs5)
                have k5 : Keep Nil w2 w5 := keep_own (HKD.out.alloc _) (own_keep HOD.out ((Keep.refl Nil _).alloc _) (fun g _ h => h)) (Nat.le_refl _) (Keep.of_grown hg5)
                obtain ⟨C5, c5, hv5⟩ := own_form ho5
                subst hv5
                have HO5 := Hid.intro_ ho5
                have HK5 := Hid.intro_ k5
                clear ho5 hg5 hs5 k5
                go_roundw
                case rel => exact ⟨p, q + 1, k + 1 + 1, C5, c5, out ++ [y], rfl, by go_num, by go_num, by have := HSX.out.li; have := HN1.out; omega, by have := HSX.out.lj; have := HN2.out; omega, by have := HSX.out.sum; omega, Hid.intro_ (by rw [List.length_append, ← HMM.out]; rfl), Hid.intro_ (by rw [← HAD.out]; exact HSX.out.go _ HMG.out), Hid.intro_ (by rw [prCells_app]; exact HO5.out), HK5⟩
                case measure => have h1 := HSX.out.sum; have h2 := HSX.out.li; have h3 := HSX.out.lj; have h4 := HN1.out; have h5 := HN2.out; simp [intOf]; omega
          · have hqi : ¬ (q : Int) < (n2 : Int) := by omega
            have HF := Hid.intro_ (show out = sortP l by
              have h1 : p = n1 := by omega
              have h2 : q = n2 := by omega
              have hM := HMG.out
              rw [h1, h2, HN1.out, HN2.out] at hM
              have := hM.done HA.out HB.out
              rw [HL.out] at this
              exact this)
            clear t0 t1 tf tf1
            go_wp2_with fail
            go_ret
            exact ⟨⟨C, m, cc, rfl, by rw [← HF.out]; exact HMM.out, by rw [← HF.out]; exact own_rd HO.out, (own_le HO.out).2, (own_le HO.out).1, HK2.out.then_ HKZ.out, TyAt.own HO.out⟩⟩
end Go.Proofs.YtadipinnbehhhaaGreatDoor
