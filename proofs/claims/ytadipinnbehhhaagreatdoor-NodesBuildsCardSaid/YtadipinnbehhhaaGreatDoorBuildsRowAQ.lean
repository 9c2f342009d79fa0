/- NodesBuilds: the law's walk. -/
import Derived.Deep.CutBlock
import Derived.Test.YtadipinnbehhhaaGreatDoorBuildsRowAP
namespace Go.Proofs.YtadipinnbehhhaaGreatDoor
open Go.RowKit

/-- A step of a script. -/
structure AddC where
  kind : Int
  level : Int
  low : Nat
  high : Nat
def addCells (l : List AddC) : List Value := l.flatMap fun q => [.int .i64 q.kind, .int .i64 q.level, .int .u64 q.low, .int .u64 q.high]

/-- The room that Open leaves. -/
theorem open_rm {X w2 : World} {E : Nat → Addr} {d p lk k m0 m K block : Nat} {blocks limit : Int} {fs : List (ByteArray × AFile)} (h : OpenAt X w2 d p lk k m0 m block blocks limit fs) (he : ErrsAt X E) (hh : HalvesAt X) (hm : MagicAt X) (hK : fit block = K) (hK0 : 0 < K) :
    RmAt ⟨E, d, p, lk, k, none, K, block⟩ w2 (RF (fun b => m0 ≤ b ∧ b < m) p lk k) ⟨mountD block blocks fs, PSt.new limit, 1⟩ ∧ ∀ z, RF (fun b => m0 ≤ b ∧ b < m) p lk k z → X.heap.size ≤ z := by
  obtain ⟨l1, l2, l3, l4, l5, l6⟩ := h.lt
  obtain ⟨R, hd⟩ := h.disk
  have hmd : m0 ≤ d ∧ d < m := hd.fd
  have hG : ∀ z, RF (fun b => m0 ≤ b ∧ b < m) p lk k z → X.heap.size ≤ z := fun z hz => by
    rcases hz with hz | (hz | hz) | hz <;> omega
  have hv : ∀ i, i < 9 → ¬ RF (fun b => m0 ≤ b ∧ b < m) p lk k (errVar i) := fun i hi hf => by
    have := hG _ hf
    have := he.old i hi
    omega
  have hb : ∀ i, i < 9 → ¬ RF (fun b => m0 ≤ b ∧ b < m) p lk k (E i).block := fun i hi hf => by
    have := hG _ hf
    obtain ⟨cs, t, hb⟩ := he.blk i hi
    have := lt_of_heap hb
    omega
  have hnh : ¬ RF (fun b => m0 ≤ b ∧ b < m) p lk k 11 := fun hf => by
    have := hG _ hf
    have := cell_lt (hh 0 (by decide))
    simp only at this
    omega
  have hnm : ¬ RF (fun b => m0 ≤ b ∧ b < m) p lk k 9 := fun hf => by
    have := hG _ hf
    have := cell_lt (hm 0 83 rfl)
    simp only at this
    omega
  have henv : Env w2 (RF (fun b => m0 ≤ b ∧ b < m) p lk k) E := ⟨he.keep h.keep (fun _ _ h => h) (fun _ _ h => h), hv, hb⟩
  refine ⟨⟨⟨_, rfl, ⟨R, hd⟩, h.purse, ?_, henv, fun hf => ?_, fun hf => ?_, fun hf => ?_⟩, ⟨henv, hh.keep h.keep (fun h => h), hm.keep h.keep (fun h => h), hnh, hnm⟩, rfl, hK, hK0⟩, hG⟩
  · have := h.desk
    rw [hK] at this
    exact this
  · have hf : m0 ≤ p ∧ p < m := hf
    omega
  · have hf : m0 ≤ lk ∧ lk < m := hf
    omega
  · have hf : m0 ≤ k ∧ k < m := hf
    omega
theorem Game.nil {c : Cx} {L : Nat → Prop} {bb b g base n : Nat} {fs : List (ByteArray × AFile)} {name : ByteArray} {w w' : World} {m : Mo} (h : Game c L bb b g base fs name n w m) (k : Keep Nil w w') : Game c L bb b g base fs name n w' m := by
  obtain ⟨G, s, x, y, hb, hm, hs, hL⟩ := h.out
  exact ⟨⟨G, s, x, y, hb.nil k, hm.nil k, hs, hL⟩, h.ok, h.base⟩
theorem add_at4 {w : World} {A : Option Addr} {l : List AddC} (h : Rd w A (addCells l)) {k : Nat} {q : AddC} (hq : l[k]? = some q) :
    ∃ g o, A = some ⟨g, o, none⟩ ∧ w.cell? ⟨g, o + k * 4, none⟩ = some (.int .i64 q.kind) ∧ w.cell? ⟨g, o + k * 4 + 1, none⟩ = some (.int .i64 q.level) ∧ w.cell? ⟨g, o + k * 4 + 2, none⟩ = some (.int .u64 q.low) ∧ w.cell? ⟨g, o + k * 4 + 3, none⟩ = some (.int .u64 q.high) := by
  have key : ∀ (l : List AddC) (k : Nat) (q : AddC), l[k]? = some q → (addCells l)[k * 4]? = some (.int .i64 q.kind) ∧ (addCells l)[k * 4 + 1]? = some (.int .i64 q.level) ∧ (addCells l)[k * 4 + 2]? = some (.int .u64 q.low) ∧ (addCells l)[k * 4 + 3]? = some (.int .u64 q.high) := by
    intro l
    induction l with
    | nil => intro k q h; simp at h
    | cons r l ih =>
      intro k q h
      have e : addCells (r :: l) = .int .i64 r.kind :: .int .i64 r.level :: .int .u64 r.low :: .int .u64 r.high :: addCells l := rfl
      match k with
      | 0 => simp only [List.getElem?_cons_zero, Option.some.injEq] at h; subst h; exact ⟨rfl, rfl, rfl, rfl⟩
      | k + 1 =>
        have h2 := ih k q (by simpa using h)
        rw [e, show (k + 1) * 4 = k * 4 + 1 + 1 + 1 + 1 by omega, show k * 4 + 1 + 1 + 1 + 1 + 1 = (k * 4 + 1) + 1 + 1 + 1 + 1 by omega, show k * 4 + 1 + 1 + 1 + 1 + 2 = (k * 4 + 2) + 1 + 1 + 1 + 1 by omega, show k * 4 + 1 + 1 + 1 + 1 + 3 = (k * 4 + 3) + 1 + 1 + 1 + 1 by omega]
        simpa using h2
  obtain ⟨k0, k1, k2, k3⟩ := key l k q hq
  obtain ⟨⟨g, o, sp⟩, rfl, c0⟩ := h _ _ k0
  obtain rfl : sp = none := by
    have hlk := (List.getElem?_eq_some_iff.1 hq).1
    obtain ⟨q0, hq0⟩ : ∃ q0, l[0]? = some q0 := ⟨_, List.getElem?_eq_getElem (by omega)⟩
    obtain ⟨ad, e, hc⟩ := h _ _ (key l 0 q0 hq0).1
    injection e with e
    subst e
    have h9 : (Addr.add ⟨g, o, sp⟩ (0 * 4)) = ⟨g, o, sp⟩ := by simp [Addr.add]
    rw [h9] at hc
    exact World.cell?_spot hc
  rw [add_at] at c0
  have rd : ∀ j u, (addCells l)[j]? = some u → w.cell? ⟨g, o + j, none⟩ = some u := fun j u hu => by
    obtain ⟨ad, e, hc⟩ := h j u hu
    injection e with e
    subst e
    rw [add_at] at hc
    exact hc
  refine ⟨g, o, rfl, c0, ?_, ?_, ?_⟩
  · have := rd _ _ k1; rwa [show o + (k * 4 + 1) = o + k * 4 + 1 by omega] at this
  · have := rd _ _ k2; rwa [show o + (k * 4 + 2) = o + k * 4 + 2 by omega] at this
  · have := rd _ _ k3; rwa [show o + (k * 4 + 3) = o + k * 4 + 3 by omega] at this

theorem own_le {w : World} {base : Nat} {e : TypeId} {size n c : Nat} {A : Option Addr} {xs : List Value} (h : w.ownsRow base e size (.slice A n c) n xs) : n ≤ c ∧ ∀ a, A = some a → a.spot = none := by
  rcases h.2 with ⟨e, h0⟩ | ⟨g, cap, cur, e, _, _, hle, _⟩
  · injection e with e1 e2 e3
    exact ⟨by omega, fun a ha => by rw [e1] at ha; cases ha⟩
  · injection e with e1 e2 e3
    exact ⟨by omega, fun a ha => by rw [e1] at ha; injection ha with ha; subst ha; rfl⟩
/-- A file in a row of its own. -/
theorem one_file {w : World} {H : Nat → Prop} {f : ByteArray × AFile} {Av : Option Addr} {cv : Nat} (h : FsAt w H (.slice Av f.2.blocks.length cv) f.2.blocks) :
    FlAt (w.alloc (.cells #[.string f.1, .bool f.2.done, .slice Av f.2.blocks.length cv] 55)) (fun b => H b ∨ w.heap.size ≤ b) (.slice (some ⟨w.heap.size, 0, none⟩) 1 1) [f] := by
  have k0 := (Keep.refl Nil w).alloc (.cells #[.string f.1, .bool f.2.done, .slice Av f.2.blocks.length cv] 55)
  have b0 := Blk.new w 55 #[.string f.1, .bool f.2.done, .slice Av f.2.blocks.length cv]
  refine ⟨some ⟨w.heap.size, 0, none⟩, 1, [.slice Av f.2.blocks.length cv], rfl, rfl, fun j u hu => ⟨_, rfl, ?_⟩, fun a e => ?_, fun a e => ?_, fun j r f' hr hf => ?_⟩
  · rw [add_at, Nat.zero_add]
    refine (b0.at_ j).trans ?_
    rw [← hu, List.getElem?_toArray]
    rfl
  · injection e with e
    subst e
    exact ⟨.inr (Nat.le_refl _), b0.lt, rfl⟩
  · injection e with e
    subst e
    exact ⟨_, _, b0⟩
  · match j with
    | 0 => injection hr with hr; injection hf with hf; subst hr hf; exact (h.nil k0).mono (fun b hb _ => .inl hb)
    | j + 1 => simp at hr
theorem made_bld {c : Cx} {w : World} {G : Nat → Prop} {s : RSt} {x : WSt} {y : BSt} {bb b : Nat} {H H2 : Nat → Prop} {fs : List (ByteArray × AFile)} {f : ByteArray × AFile} {A : Option Addr} {nv cv : Nat} {vw : Value} (h : BldAt c w bb b G s x y) (hs : StAt w H (.agg #[.int .i64 c.block, .slice A nv cv]) c.block fs) (hw : FlAt w H2 vw [f]) (hsh : Shut c (fs ++ [f]) s) (ho : FsOk fs) (hn : f.1.size ≤ 32) (h8 : ∀ b ∈ f.2.blocks, ∀ x ∈ b, 0 ≤ x ∧ x ≤ 255) (hl : f.2.blocks.length ≤ 1099511627776) (hl2 : fs.length < 1099511627776) :
    Calls Tryz.prog 21 #[.agg #[.pointer (some ⟨c.d, 0, none⟩), .pointer (some ⟨c.p, 0, none⟩), .pointer (some ⟨c.k, 0, none⟩), .int .i64 c.block, .slice A nv cv], vw] w fun e w' => e = .returned (.bool true) ∧ BldTo c bb b G s x y w w' := by
  obtain ⟨G0, h0, _, via⟩ := h.rm
  refine (made_rm h0 hs hw hsh.calm (List.Perm.refl _) ho.rises (fun g hg => ?_) (fun g hg => ?_) ⟨by simp only [List.length_append, List.length_singleton]; omega, fun g hg => ?_⟩ (by rw [hsh.hand, hsh.parts]; rfl)).mono fun _ _ ⟨he, t⟩ => ⟨he, via _ _ t⟩
  · rcases List.mem_append.1 hg with hg | hg
    · exact ho.short g hg
    · rw [List.mem_singleton.1 hg]; exact hn
  · rcases List.mem_append.1 hg with hg | hg
    · exact ho.bytes g hg
    · rw [List.mem_singleton.1 hg]; exact h8
  · rcases List.mem_append.1 hg with hg | hg
    · exact ho.few.2 g hg
    · rw [List.mem_singleton.1 hg]; exact hl

set_option maxRecDepth 100000 in
set_option maxHeartbeats 4000000 in
theorem builds_true (w : World) (E : Nat → Addr) (vars a b : Int) (A : Option Addr) (cap : Nat) (sc : List AddC) (hv : -9223372036854775808 ≤ vars ∧ vars ≤ 9223372036854775807) (ha : -9223372036854775808 ≤ a ∧ a ≤ 9223372036854775807) (hsc : Rd w A (addCells sc))
    (hok : ∀ q ∈ sc, q.low < 18446744073709551616 ∧ q.high < 18446744073709551616) (he : ErrsAt w E) (hh : HalvesAt w) (hm : MagicAt w) (hle : sc.length ≤ 268435456) :
    Calls Tryz.prog 3 #[.int .i64 vars, .slice A sc.length cap, .agg #[.int .i64 a, .int .i64 b]] w fun e w' => e = .returned (.bool true) ∧ Keep Nil w w' := by
  have hwi := within_bd a
  have hbl := lblock_any a ha
  have hK := fit_K hwi
  obtain ⟨block, hblock⟩ : ∃ block : Nat, (block : Int) = 64 + 32 * within a 9 := ⟨(64 + 32 * within a 9).toNat, by omega⟩
  obtain ⟨K, hKK⟩ : ∃ K : Nat, (K : Int) = 1 + within a 9 := ⟨(1 + within a 9).toNat, by omega⟩
  rw [← hblock] at hbl hK
  rw [← hKK] at hK
  have hb1 : 64 ≤ block ∧ block ≤ 65536 ∧ block % 32 = 0 := by omega
  have hK0 : 0 < K := by omega
  have hK9 : K ≤ 9 := by omega
  have hhu : ∀ W, Calls Tryz.prog 8 #[.int .i64 sc.length] W fun e w' => e = .returned (.bool false) ∧ w' = W := fun W => by
    have := huge_any sc.length W
    rw [decide_eq_false (by omega)] at this
    exact this
  have hft := fun W => rfit_any block W
  rw [hK] at hft
  have HBL := Hid.intro_ hbl
  have HFT := Hid.intro_ hft
  have HHU := Hid.intro_ hhu
  have HST := Hid.intro_ (fun W => stray_any block W hb1)
  have HB1 := Hid.intro_ hb1
  have HSC := Hid.intro_ hsc
  have HOK := Hid.intro_ hok
  have HE := Hid.intro_ he
  have HH := Hid.intro_ hh
  have HM := Hid.intro_ hm
  have HK := Hid.intro_ hK
  clear hbl hft hhu hblock hKK hwi hsc hok he hh hm hb1 hK
  go_enter Tryz.func3, Tryz.ntmps3
  go_upto_region 9 with (first
    | (go_at_call 8; refine (HHU.out _).mono ?_; rintro e w' ⟨rfl, rfl⟩)
    | (go_at_call 9; refine (HBL.out _).mono ?_; rintro e w' ⟨rfl, rfl⟩)
    | (go_at_call 10; refine (HFT.out _).mono ?_; rintro e w' ⟨rfl, rfl⟩)
    | (go_at_call 11; refine (HST.out _).mono ?_; rintro e w1 ⟨As, cs, rfl, hst, k1⟩))
  obtain ⟨W, hW⟩ : ∃ W, W = w.alloc (.cells #[.int .i64 a, .int .i64 b] 23) := ⟨_, rfl⟩
  obtain ⟨X, hX⟩ : ∃ X, X = w1.alloc (.cells #[.int .i64 block, .slice As 2 cs] 28) := ⟨_, rfl⟩
  have kW : Keep Nil w W := by rw [hW]; exact (Keep.refl Nil w).alloc _
  have bW : Blk W w.heap.size 23 #[.int .i64 a, .int .i64 b] := by rw [hW]; exact Blk.new w _ _
  rw [← hW] at hst k1
  have kX0 : Keep Nil w1 X := by rw [hX]; exact (Keep.refl Nil w1).alloc _
  have kX : Keep Nil w X := (kW.then_ k1).then_ kX0
  have bX : Blk X w1.heap.size 28 #[.int .i64 block, .slice As 2 cs] := by rw [hX]; exact Blk.new w1 _ _
  have bH : Blk X w.heap.size 23 #[.int .i64 a, .int .i64 b] := (bW.keep k1 (fun h => h)).keep kX0 (fun h => h)
  have hstX : StAt X (fun z => z < w1.heap.size) (.agg #[.int .i64 block, .slice As 2 cs]) block (strayFs block) := (hst.mono (fun z _ hz => hz)).nil kX0
  have lW := bW.lt
  have l1 := k1.size
  rw [← hX]
  have hb1 : X.cell? ⟨w.heap.size, 1, none⟩ = some (.int .i64 b) := bH.at_ 1
  have KX := Hid.intro_ kX
  have BX := Hid.intro_ bX
  have HSTX := Hid.intro_ hstX
  clear hX hW hst k1 kW bW kX0 kX bX bH hstX
  generalize hT : w1.heap.size = T at *
  go_cut [43] from 38 to 43 (fun v wc => v = .bool (decide (vars < 0 ∨ 65536 < vars)) ∧ wc = X)
  case first =>
    by_cases h1 : vars < 0
    · have e := Hid.intro_ (show decide (vars < 0 ∨ 65536 < vars) = true by rw [decide_eq_true (.inl h1)])
      go_wp2
      go_meet
      exact ⟨by rw [e.out], rfl⟩
    · have h2 : 0 ≤ vars := by omega
      have e := Hid.intro_ (show decide (vars < 0 ∨ 65536 < vars) = decide (65536 < vars) by rw [decide_eq_decide]; omega)
      go_wp2
      go_meet
      exact ⟨by rw [e.out], rfl⟩
  case rest =>
    obtain ⟨rfl, hwc⟩ := hcut
    obtain rfl := hwc.symm
    obtain ⟨bad, hbad⟩ : ∃ bad, bad = decide (vars < 0 ∨ 65536 < vars) := ⟨_, rfl⟩
    rw [← hbad]
    have HBAD := Hid.intro_ hbad
    clear hbad
    go_upto_if 43 with (fail)
    go_cut [12] from 12 to 12 (fun v wc => v = .int .i64 (if bad = true then 1 else 0) ∧ wc = X)
    case first =>
      cases bad
      all_goals
        go_wp2
        go_meet
        exact ⟨rfl, rfl⟩
    case rest =>
      obtain ⟨rfl, hwc⟩ := hcut
      obtain rfl := hwc.symm
      obtain ⟨e0, he0⟩ : ∃ e0 : Int, e0 = if bad = true then 1 else 0 := ⟨_, rfl⟩
      rw [← he0]
      have HE0 := Hid.intro_ he0
      clear he0
      obtain ⟨P, hP⟩ : ∃ P, P = pick K b vars := ⟨_, rfl⟩
      have HP := Hid.intro_ hP
      clear hP
      go_upto_block 0 with (fail)
      go_cut [10, 11, 12] from 10 to 59 (fun v10 v11 v12 wc => v10 = .int .i64 P.limit ∧ v11 = .string P.name ∧ v12 = .int .i64 P.want ∧ wc = X)
      case first =>
        have hE0 := HE0.out
        have hBB := HBAD.out
        have hPP := HP.out
        unfold pick at hPP
        simp only at hPP
        clear HE0 HBAD HP
        cases bad
        · have hvv : ¬ (vars < 0 ∨ 65536 < vars) := of_decide_eq_false hBB.symm
          obtain rfl : e0 = 0 := hE0
          simp only [if_neg hvv] at hPP
          clear hvv hBB
          by_cases h1 : b = 1
          · rw [if_pos h1] at hPP
            have q1 : (b == 1) = true := by simpa using h1
            have HPP := Hid.intro_ hPP
            clear h1 hPP
            go_wp2
            go_meet
            rw [HPP.out]
            exact ⟨rfl, rfl, rfl, rfl⟩
          rw [if_neg h1] at hPP
          have q1 : (b == 1) = false := by simpa using h1
          by_cases h2 : b = 2
          · rw [if_pos h2] at hPP
            have q2 : (b == 2) = true := by simpa using h2
            have HPP := Hid.intro_ hPP
            clear h1 h2 hPP
            go_wp2
            go_meet
            rw [HPP.out]
            exact ⟨rfl, rfl, rfl, rfl⟩
          rw [if_neg h2] at hPP
          have q2 : (b == 2) = false := by simpa using h2
          by_cases h3 : b = 3
          · rw [if_pos h3] at hPP
            have q3 : (b == 3) = true := by simpa using h3
            have HPP := Hid.intro_ hPP
            clear h1 h2 h3 hPP
            go_wp2
            go_meet
            rw [HPP.out]
            exact ⟨rfl, rfl, rfl, rfl⟩
          · rw [if_neg h3] at hPP
            have q3 : (b == 3) = false := by simpa using h3
            have HPP := Hid.intro_ hPP
            clear h1 h2 h3 hPP
            go_wp2
            go_meet
            rw [HPP.out]
            exact ⟨rfl, rfl, rfl, rfl⟩
        · have hvv : (vars < 0 ∨ 65536 < vars) := of_decide_eq_true hBB.symm
          obtain rfl : e0 = 1 := hE0
          simp only [if_pos hvv] at hPP
          clear hvv hBB
          by_cases h1 : b = 1
          · rw [if_pos h1] at hPP
            have q1 : (b == 1) = true := by simpa using h1
            have HPP := Hid.intro_ hPP
            clear h1 hPP
            go_wp2
            go_meet
            rw [HPP.out]
            exact ⟨rfl, rfl, rfl, rfl⟩
          rw [if_neg h1] at hPP
          have q1 : (b == 1) = false := by simpa using h1
          by_cases h2 : b = 2
          · rw [if_pos h2] at hPP
            have q2 : (b == 2) = true := by simpa using h2
            have HPP := Hid.intro_ hPP
            clear h1 h2 hPP
            go_wp2
            go_meet
            rw [HPP.out]
            exact ⟨rfl, rfl, rfl, rfl⟩
          rw [if_neg h2] at hPP
          have q2 : (b == 2) = false := by simpa using h2
          by_cases h3 : b = 3
          · rw [if_pos h3] at hPP
            have q3 : (b == 3) = true := by simpa using h3
            have HPP := Hid.intro_ hPP
            clear h1 h2 h3 hPP
            go_wp2
            go_meet
            rw [HPP.out]
            exact ⟨rfl, rfl, rfl, rfl⟩
          · rw [if_neg h3] at hPP
            have q3 : (b == 3) = false := by simpa using h3
            have HPP := Hid.intro_ hPP
            clear h1 h2 h3 hPP
            go_wp2
            go_meet
            rw [HPP.out]
            exact ⟨rfl, rfl, rfl, rfl⟩
      case rest =>
        obtain ⟨rfl, rfl, rfl, hwc⟩ := hcut
        obtain rfl := hwc.symm
        generalize hPn : P.name = Pn at *
        generalize hPl : P.limit = Pl at *
        generalize hPw : P.want = Pw at *
        have HPn := Hid.intro_ hPn
        have HPl := Hid.intro_ hPl
        have HPw := Hid.intro_ hPw
        clear hPn hPl hPw
        have x0 : X.cell? ⟨T, 0, none⟩ = some (.int .i64 block) := BX.out.at_ 0
        have x1 : X.cell? ⟨T, 1, none⟩ = some (.slice As 2 cs) := BX.out.at_ 1
        have hlim : 0 ≤ Pl ∧ Pl ≤ 9 := by
          rw [← HPl.out, HP.out]
          unfold pick
          simp only
          split
          · simp only; omega
          split
          · simp only; omega
          split
          · simp only; omega
          · simp only; omega
        have HOP := Hid.intro_ (open_ok (fun z => z < T) (.slice As 2 cs) block 1099511627776 Pl (strayFs block) X HSTX.out (by have := HB1.out; omega) (by have := HB1.out; omega) (by have := HB1.out; omega) (by decide) (by decide) hlim.1 (by omega) stray_ok (fun f hf b hb => by rw [stray_blocks HK.out hK0 f hf b hb]) stray_bytes stray_rises (by rw [stray_total HK.out hK0]; decide) (stray_few HK.out hK0) (by rw [HK.out]; omega))
        have HEX := Hid.intro_ (HE.out.keep KX.out (fun _ _ h => h) (fun _ _ h => h))
        have HHX := Hid.intro_ (HH.out.keep KX.out (fun h => h))
        have HMX := Hid.intro_ (HM.out.keep KX.out (fun h => h))
        go_wp2_with fail
        refine HOP.out.mono ?_
        rintro e w2 ⟨d, p, lk, k, m0, m, rfl, hop⟩
        obtain ⟨hrm, hG⟩ := open_rm hop HEX.out HHX.out HMX.out HK.out hK0
        have k2 := hop.keep
        obtain ⟨Y, hY⟩ : ∃ Y, Y = w2.alloc (.cells #[.pointer (some ⟨d, 0, none⟩), .pointer (some ⟨p, 0, none⟩), .pointer (some ⟨k, 0, none⟩), .int .i64 block, .slice As 2 cs] 35) := ⟨_, rfl⟩
        have kY0 : Keep Nil w2 Y := by rw [hY]; exact (Keep.refl Nil w2).alloc _
        have bR : Blk Y w2.heap.size 35 #[.pointer (some ⟨d, 0, none⟩), .pointer (some ⟨p, 0, none⟩), .pointer (some ⟨k, 0, none⟩), .int .i64 block, .slice As 2 cs] := by rw [hY]; exact Blk.new w2 _ _
        have hrY := hrm.nil kY0
        have hGl : ∀ z, RF (fun b => m0 ≤ b ∧ b < m) p lk k z → z < w2.heap.size := hrm.lt
        have r0 : Y.cell? ⟨w2.heap.size, 0, none⟩ = some (.pointer (some ⟨d, 0, none⟩)) := bR.at_ 0
        have r1 : Y.cell? ⟨w2.heap.size, 1, none⟩ = some (.pointer (some ⟨p, 0, none⟩)) := bR.at_ 1
        have r2 : Y.cell? ⟨w2.heap.size, 2, none⟩ = some (.pointer (some ⟨k, 0, none⟩)) := bR.at_ 2
        have r3 : Y.cell? ⟨w2.heap.size, 3, none⟩ = some (.int .i64 block) := bR.at_ 3
        have r4 : Y.cell? ⟨w2.heap.size, 4, none⟩ = some (.slice As 2 cs) := bR.at_ 4
        generalize hGG : RF (fun b => m0 ≤ b ∧ b < m) p lk k = G at *
        obtain ⟨c, hc⟩ : ∃ c : Cx, c = ⟨E, d, p, lk, k, none, K, block⟩ := ⟨_, rfl⟩
        have hcE : c.E = E := by rw [hc]
        have hcd : c.d = d := by rw [hc]
        have hcp : c.p = p := by rw [hc]
        have hck : c.k = k := by rw [hc]
        have hcK : c.K = K := by rw [hc]
        have hcb : c.block = block := by rw [hc]
        rw [← hc] at hrY
        clear hc hop hrm
        subst hcE hcd hcp hck hcK hcb
        obtain ⟨s0, hs0⟩ : ∃ s0 : RSt, s0 = { D := mountD (c.block : Int) 1099511627776 (strayFs c.block), S := PSt.new Pl, next := 1 } := ⟨_, rfl⟩
        rw [← hs0] at hrY
        have hcalm : Calm s0.D c.block (strayFs c.block) := by rw [hs0]; exact mount_calm _ _
        have hsS : s0.S = PSt.new Pl := by rw [hs0]
        clear hs0
        have HBN := Hid.intro_ (fun W => begin_nil Pn vars W)
        have hbp := begins_pick (K := c.K) hcalm b vars (by rw [hsS, ← HPl.out, HP.out])
        rw [← HP.out, HPn.out, HPl.out, HPw.out] at hbp
        have HBP := Hid.intro_ hbp
        have HRY := Hid.intro_ hrY
        have hbg := begin_any c Y G s0 Pn vars hrY
        have HCALM := Hid.intro_ hcalm
        have HSS := Hid.intro_ hsS
        have KXY := Hid.intro_ (k2.then_ kY0)
        have HSY := Hid.intro_ ((HSTX.out.nil k2).nil kY0)
        have HGX := Hid.intro_ hG
        have HGL := Hid.intro_ hGl
        have BR := Hid.intro_ bR
        have l2 := bR.lt
        have l22 := k2.size
        have hlT : T < X.heap.size := BX.out.lt
        have hYsz := Hid.intro_ (show Y.heap.size = w2.heap.size + 1 by rw [hY]; simp)
        have hfo : Hid (FsOk (strayFs c.block)) := ⟨stray_rises, stray_short, stray_bytes, stray_few HK.out hK0⟩
        have hkw : Hid (∀ w3, Keep G Y w3 → Keep Nil w w3) := fun w3 k3 => (KX.out.then_ KXY.out).trans k3 (fun b hb hg => by have := HGX.out b hg; have := KX.out.size; omega)
        clear k2 kY0 bR hrY hGl hGG x0 x1 hb1 hcalm hsS hbp hG
        have hw1 : ((1 : Int) != 1) = false := by decide
        by_cases hwant : Pw = 0
        · obtain ⟨hn, hl, hv0, hv1⟩ := HBP.out.2.2 hwant
          obtain ⟨vn, rfl⟩ : ∃ vn : Nat, (vn : Int) = vars := ⟨vars.toNat, by omega⟩
          obtain rfl : Pw = 0 := hwant
          subst hn hl
          have hfr : Frm c (strayFs c.block) nmOut (sc.length + 1) := law_frm HK.out hK0 (by omega)
          obtain ⟨hX1, hlive⟩ := begins_live HCALM.out hfr (vars := vn) (by omega) (by rw [HSS.out]; rfl) (by rw [HSS.out]; rfl) (by rw [HSS.out]; rfl) (by rw [HSS.out]; exact Int.le_refl _)
          obtain ⟨x9, hx9⟩ : ∃ x9 : WSt, x9 = { name := nmOut, kind := 2, dead := 0, done := false, place := 0, count := 0, list := [] } := ⟨_, rfl⟩
          obtain ⟨y9, hy9⟩ : ∃ y9 : BSt, y9 = { vars := (vn : Int).toNat, last := ⟨0, 0, 0⟩, some_ := false, dead := 0, done := false } := ⟨_, rfl⟩
          obtain ⟨m9, hm9⟩ : ∃ m9 : Mo, m9 = { vars := vn, last := ⟨0, 0, 0⟩, any := false, done := false, recs := [] } := ⟨_, rfl⟩
          obtain ⟨s9, hs9⟩ : ∃ s9 : RSt, s9 = { s0 with D := (begins s0 c.K nmOut vn).2.1, S := (begins s0 c.K nmOut vn).2.2 } := ⟨_, rfl⟩
          rw [← hx9, ← hy9, ← hm9, ← hs9] at hlive
          have hret : ∀ e w3, BgP c G (begins s0 c.K nmOut vn) s0 nmOut vn Y e w3 → ∃ bb bl, e = .returned (.tuple #[.pointer (some ⟨bb, 0, none⟩), .int .i64 0]) ∧ BldTo c bb bl G s9 x9 y9 Y w3 := fun e w3 hq => by
            rcases hq.out with ⟨h0, _⟩ | ⟨_, bb, bl, he, ht⟩
            · exact absurd hX1 h0
            · rw [← hx9, ← hy9, ← hs9] at ht
              exact ⟨bb, bl, he, ht⟩
          have HBG := Hid.intro_ (hbg.mono hret)
          have hmc : Hid (moCells m9 (.slice none 0 0) = #[.int .i64 vn, .int .u64 0, .int .u64 0, .int .u64 0, .bool false, .bool false, .slice none 0 0] ∧ m9.recs = [] ∧ MoOk m9 0) := by
            rw [hm9]
            exact ⟨rfl, rfl, ⟨by simp only; omega, fun r hr => absurd hr (List.not_mem_nil), ⟨(by decide : 0 < 18446744073709551616), (by decide : 0 < 18446744073709551616), (by decide : 0 < 18446744073709551616)⟩, Nat.le_refl _⟩⟩
          have HLIVE := Hid.intro_ hlive
          have HFR := Hid.intro_ hfr
          clear hX1 hret hbg hlive hx9 hy9 hm9 hs9 hfr
          have q0 : ((0 : Int) != 0) = false := by decide
          go_wp2_with (first | (go_at_call 13; with_reducible refine (HBN.out _).mono ?_; rintro e w' ⟨rfl, rfl⟩) | fail)
          rw [← hY]
          refine HBG.out.mono ?_
          rintro e w3 ⟨bb, bl, rfl, G3, h3, s3⟩
          have H3 := Hid.intro_ h3
          have S3 := Hid.intro_ s3
          clear h3 s3 hY
          obtain ⟨Z, hZ⟩ : ∃ Z, Z = w3.alloc (.cells #[.int .i64 vn, .int .u64 0, .int .u64 0, .int .u64 0, .bool false, .bool false, .slice none 0 0] 49) := ⟨_, rfl⟩
          have kZ : Keep Nil w3 Z := by rw [hZ]; exact (Keep.refl Nil w3).alloc _
          have bZ : Blk Z w3.heap.size 49 (moCells m9 (.slice none 0 0)) := by rw [hmc.out.1, hZ]; exact Blk.new w3 _ _
          have hoff : Off c.E G3 w3.heap.size := Off.new H3.out.env H3.out.lt (Nat.le_refl _)
          obtain ⟨L, hL⟩ : ∃ L : Nat → Prop, L = fun z => G z ∨ Y.heap.size ≤ z := ⟨_, rfl⟩
          have hLG : ∀ z, G z → L z := fun z hz => by rw [hL]; exact .inl hz
          have hLY : ∀ z, Y.heap.size ≤ z → L z := fun z hz => by rw [hL]; exact .inr hz
          have hLn : ∀ z, z ≤ w2.heap.size → ¬ G z → ¬ L z := fun z h1 h2 hz => by
            rw [hL] at hz
            rcases hz with hz | hz
            · exact h2 hz
            · have := hYsz.out; omega
          have lY3 := S3.out.keep.size
          have hgame : Hid (Game c L bb bl w3.heap.size w3.heap.size (strayFs c.block) nmOut 0 Z m9) := by
            refine ⟨⟨G3, s9, x9, y9, H3.out.nil kZ, ⟨⟨_, bZ, by rw [hmc.out.2.1]; exact World.ownsRow_nil _ _ _ _, fun z hz => by cases hz⟩, hoff, Nat.le_refl _⟩, .inl HLIVE.out, fun z hz => (S3.out.grow z hz).elim (hLG z) (hLY z)⟩, hmc.out.2.2, fun z hz => hLY z (by omega)⟩
          have kYZ : Hid (Keep L Y Z) := (S3.out.keep.mono (fun z _ hz => hLG z hz)).trans kZ (fun _ _ h => h.elim)
          have HLG := Hid.intro_ hLG
          have HLY := Hid.intro_ hLY
          have HLN := Hid.intro_ hLn
          have hnR : ¬ L w2.heap.size := hLn _ (Nat.le_refl _) (fun h => Nat.lt_irrefl _ (HGL.out _ h))
          have hnX : Hid (∀ z, z < X.heap.size → ¬ L z) := fun z hz => hLn z (by omega) (fun h => by have := HGX.out z h; omega)
          clear hL hLG hLY hLn bZ kZ hoff hmc
          go_wp2_with fail
          rw [← hZ]
          clear hZ r0 r1 r2 r3 r4
          generalize hg : w3.heap.size = g at *
          go_loopw [20] (fun j wr => ∃ k : Nat, k ≤ sc.length ∧ j = .int .i64 k ∧ ∃ m, Hid (Game c L bb bl g g (strayFs c.block) nmOut k wr m) ∧ Hid (Keep L Y wr)) (fun j _ => sc.length - (intOf j).toNat)
          case atStart => exact ⟨0, Nat.zero_le _, rfl, m9, hgame, kYZ⟩
          case round =>
            obtain ⟨k, hk, rfl, m, HG, HKY⟩ := hrel
            have bR := BR.out.keep HKY.out hnR
            have r0 : wr.cell? ⟨w2.heap.size, 0, none⟩ = some (.pointer (some ⟨c.d, 0, none⟩)) := bR.at_ 0
            have r1 : wr.cell? ⟨w2.heap.size, 1, none⟩ = some (.pointer (some ⟨c.p, 0, none⟩)) := bR.at_ 1
            have r2 : wr.cell? ⟨w2.heap.size, 2, none⟩ = some (.pointer (some ⟨c.k, 0, none⟩)) := bR.at_ 2
            have r3 : wr.cell? ⟨w2.heap.size, 3, none⟩ = some (.int .i64 c.block) := bR.at_ 3
            have r4 : wr.cell? ⟨w2.heap.size, 4, none⟩ = some (.slice As 2 cs) := bR.at_ 4
            have hsw := HSY.out.keep HKY.out (fun z hz _ => hnX.out z (by omega))
            by_cases hlt : k < sc.length
            · obtain ⟨q, hq⟩ : ∃ q, sc[k]? = some q := ⟨_, List.getElem?_eq_getElem hlt⟩
              obtain ⟨ga, oa, rfl, p0, p1, p2, p3⟩ := add_at4 HSC.out hq
              have kwX := KX.out.then_ KXY.out
              have hga : ga < X.heap.size := by have h9 : ga < w.heap.size := cell_lt p0; have := KX.out.size; omega
              have p0 := cell_keep (cell_keep p0 kwX (fun h => h)) HKY.out (hnX.out _ hga)
              have p1 := cell_keep (cell_keep p1 kwX (fun h => h)) HKY.out (hnX.out _ hga)
              have p2 := cell_keep (cell_keep p2 kwX (fun h => h)) HKY.out (hnX.out _ hga)
              have p3 := cell_keep (cell_keep p3 kwX (fun h => h)) HKY.out (hnX.out _ hga)
              obtain ⟨hlo, hhi⟩ := HOK.out q (List.mem_of_getElem? hq)
              have hstep := step_any (HG.out.nil (Keep.refl Nil wr).drew) HFR.out (by omega) As 2 cs q.kind q.level q.low q.high hlo hhi (hsw.nil (Keep.refl Nil wr).drew) (fun z hz _ => hnX.out z (by omega)) hfo.out
              have HSTEP := Hid.intro_ hstep
              have hk0 : 0 ≤ (k : Int) := by omega
              have hk1 : (k : Int) < (sc.length : Int) := by omega
              clear hstep hlo hhi kwX bR hsw hq
              go_wp2_with fail
              go_still_tail 7, (by kernel_rfl)
              change wpList _ _ _ _ _ wr.drew
              go_wp2_with fail
              refine HSTEP.out.mono ?_
              rintro e w5 ⟨rfl, m5, hg5, k5⟩
              have HG5 := Hid.intro_ hg5
              have HK5 := Hid.intro_ (HKY.out.trans ((Keep.refl L wr).drew.then_ k5) (fun _ _ h => h))
              clear hg5 k5
              go_wp2_with fail
              go_roundw
              case rel => exact ⟨k + 1, by omega, by go_num, m5, HG5, HK5⟩
              case measure => simp [intOf]; omega
            · obtain rfl : k = sc.length := by omega
              have hend : Hid (∀ w9, Keep L wr w9 → Keep Nil w w9) := fun w9 k9 => ((KX.out.then_ KXY.out).trans (HKY.out.trans k9 (fun _ _ h => h)) (fun z hz hl => hnX.out z (by have := KX.out.size; omega) hl))
              obtain ⟨G5, s5, x5, y5, hb5, hmo5, hsim5, hL5⟩ := HG.out.out
              obtain ⟨vm, bm, om, hvm⟩ := hmo5.out
              obtain ⟨Am, cm, rfl⟩ := own_form om
              have m5 : wr.cell? ⟨g, 5, none⟩ = some (.bool m.done) := bm.at_ 5
              have m6 : wr.cell? ⟨g, 6, none⟩ = some (.slice Am m.recs.length cm) := bm.at_ 6
              have hmok := HG.out.ok
              have hN40 : m.recs.length ≤ 1099511627776 := by have := hmok.len; omega
              obtain ⟨N, hN⟩ : ∃ N, N = m.recs.length := ⟨_, rfl⟩
              have OM := Hid.intro_ om
              have BM := Hid.intro_ bm
              have HMO := Hid.intro_ hmo5
              have HB5 := Hid.intro_ hb5
              have HL5 := Hid.intro_ hL5
              have HMOK := Hid.intro_ hmok
              have HSW := Hid.intro_ hsw
              have BR5 := Hid.intro_ bR
              clear om bm hvm hmo5 hb5 hL5 hmok hsw bR hlt
              rw [← hN] at m6 hN40 OM
              have HN := Hid.intro_ hN
              rcases hsim5 with hs | hs
              · have hd := hs.mdone
                rw [hd] at m5
                have hple := hs.w.le
                have hwlen := hs.w.len
                have hwlt := hs.w.lt
                obtain ⟨pl, hpl⟩ : ∃ pl, pl = x5.place * c.K := ⟨_, rfl⟩
                rw [← hpl, ← hN] at hwlen
                rw [← hpl, ← hN] at hple
                have hF : c.block / 32 - 1 = c.K := by have := fit_of HK.out hK0; omega
                have hwh : wholes c.K x5.place m.recs c.block = blocksB 2 (m.recs.take pl) c.block := by
                  rw [hpl]
                  exact (wholes_take hF hK0 (by rw [← hpl, ← hN]; exact hple)).symm
                have hcalm5 := hs.w.calm
                rw [hwh] at hcalm5
                have hnew : nmOut ∉ (strayFs c.block).map (·.1) := out_new
                have hgl : (strayFs c.block).length = 2 := rfl
                have hplt : (m.recs.take pl).length = pl := by rw [List.length_take]; omega
                have hplb : (blocksB 2 (m.recs.take pl) c.block).length ≤ 1099511627776 := by
                  rw [blocksB_len, hplt]
                  have h1 := nblk_le (c.block / 32 - 1) pl (by rw [hF]; exact hK0)
                  omega
                -- the state, and the file in it
                have hstate : Calls Tryz.prog 17 #[.pointer (some ⟨c.d, 0, none⟩)] wr (StatePost wr s5.D) := by
                  obtain ⟨G0, h0, _, _⟩ := HB5.out.rm
                  refine state_rm h0 hcalm5 (fun f hf => ?_) (by simp only [List.length_append, List.length_singleton]; omega)
                  rcases List.mem_append.1 hf with hf | hf
                  · exact hfo.out.short f hf
                  · rw [List.mem_singleton.1 hf]; show nmOut.size ≤ 32; decide +kernel
                obtain ⟨bl5, hbl5⟩ : ∃ bl5, bl5 = blocksB 2 (m.recs.take pl) c.block := ⟨_, rfl⟩
                rw [← hbl5] at hcalm5 hplb
                have hfind : ∀ v gs W', gs.Perm s5.D.files → rises (gs.map (·.1)) → StAt W' (fun b => wr.heap.size ≤ b) v s5.D.block gs → Calls Tryz.prog 16 #[v, .string nmOut] W' (FindPost W' (fun b => wr.heap.size ≤ b) (nmOut, ⟨false, bl5⟩)) := fun v gs W' hp hr hst => by
                  have hmem : (nmOut, (⟨false, bl5⟩ : AFile)) ∈ gs := hp.mem_iff.2 (by rw [hcalm5.files]; simp)
                  obtain ⟨i, hi⟩ := List.mem_iff_getElem?.1 hmem
                  exact find_true _ v _ gs i (nmOut, ⟨false, bl5⟩) W' hst hi (rises_nodup hr) (by have := hp.length_eq; rw [hcalm5.files, List.length_append, List.length_singleton] at this; omega)
                have HSTATE := Hid.intro_ hstate
                have HFIND := Hid.intro_ hfind
                have HLV := Hid.intro_ hs
                have HBL5 := Hid.intro_ hbl5
                have HPLT := Hid.intro_ hplt
                have HPLB := Hid.intro_ hplb
                have HPL := Hid.intro_ hpl
                clear hstate hfind hs hd hbl5 hplt hplb hcalm5 hwh hnew hpl hF hN
                go_wp2_with (first
                  | (go_at_call 17; refine HSTATE.out.mono ?_; rintro e w6 ⟨v6, gs, rfl, hgp, hgr, hst6, k6⟩
                     have HFI := Hid.intro_ (HFIND.out v6 gs w6 hgp hgr hst6)
                     have K6 := Hid.intro_ k6
                     clear hst6 hgp hgr k6)
                  | (go_at_call 16; refine HFI.out.mono ?_; rintro e w7 ⟨Af, cf, rfl, hf7, k7⟩
                     have HF7 := Hid.intro_ hf7
                     have K7 := Hid.intro_ k7
                     clear hf7 k7)
                  | fail)
                obtain ⟨P0, hP0⟩ : ∃ P0, P0 = w7.alloc (.cells #[.string nmOut, .bool false, .slice Af bl5.length cf] 55) := ⟨_, rfl⟩
                have kP : Keep Nil w7 P0 := by rw [hP0]; exact (Keep.refl Nil w7).alloc _
                have bP : Blk P0 w7.heap.size 55 #[.string nmOut, .bool false, .slice Af bl5.length cf] := by rw [hP0]; exact Blk.new w7 _ _
                have kwP := (K6.out.then_ K7.out).then_ kP
                have hrec : Calls Tryz.prog 18 #[.int .i64 2, .slice Af bl5.length cf] P0 (fun e w' => ∃ Au cu, e = .returned (.tuple #[.slice Au pl cu, .bool true]) ∧ w'.ownsRow P0.heap.size 111 4 (.slice Au pl cu) pl (rcCells (m.recs.take pl)) ∧ Keep Nil P0 w') := by
                  have := records_good 2 c.block _ (.slice Af bl5.length cf) (m.recs.take pl) P0 (by omega) HB1.out (by rw [HPLT.out]; omega) (fun r hr => HMOK.out.oks r (List.mem_of_mem_take hr)) (by rw [← HBL5.out]; exact HF7.out.nil kP)
                  rw [HPLT.out] at this
                  refine this.mono fun e w' ⟨u, he, ho, hk⟩ => ?_
                  obtain ⟨Au, cu, rfl⟩ := own_form ho
                  exact ⟨Au, cu, he, ho, hk⟩
                obtain ⟨q9, hq9⟩ : ∃ q9, q9 = bdrop c s5 x5 y5 := ⟨_, rfl⟩
                obtain ⟨hd1, _, hd3, _⟩ := HLV.out.drop HFR.out HMOK.out
                rw [← hq9] at hd1 hd3
                have hdrop : ∀ W', Keep Nil wr W' → Calls Tryz.prog 19 #[.pointer (some ⟨bb, 0, none⟩)] W' (fun e w' => e = .returned (.int .i64 0) ∧ BldTo c bb bl G5 q9.2.1 q9.2.2.1 q9.2.2.2 W' w') := fun W' k' => by
                  have := bdrop_any c W' bb bl G5 s5 x5 y5 (HB5.out.nil k')
                  rw [← hq9] at this
                  refine this.mono fun e w' ⟨he, ht⟩ => ?_
                  rw [hd1] at he
                  exact ⟨he, ht⟩
                have HREC := Hid.intro_ hrec
                have HDROP := Hid.intro_ hdrop
                have HSH := Hid.intro_ hd3
                have KWP := Hid.intro_ kwP
                have BP := Hid.intro_ bP
                have hPw : Hid (wr.heap.size ≤ w7.heap.size) := (K6.out.then_ K7.out).size
                rw [← hP0]
                have p2 : P0.cell? ⟨w7.heap.size, 2, none⟩ = some (.slice Af bl5.length cf) := bP.at_ 2
                clear hrec hdrop hd1 hd3 hq9 kwP bP kP hP0
                refine HREC.out.mono ?_
                rintro e w8 ⟨Au, cu, rfl, ho8, k8⟩
                have HO8 := Hid.intro_ ho8
                have K8 := Hid.intro_ k8
                have HD8 := Hid.intro_ (HDROP.out w8 (KWP.out.then_ k8))
                have hN8 : Hid (P0.heap.size ≤ w8.heap.size) := k8.size
                clear ho8 k8 p2
                go_wp2_with fail
                refine HD8.out.mono ?_
                rintro e w9 ⟨rfl, G9, h9, s9'⟩
                have nR5 : ¬ G5 w2.heap.size := fun h => hnR (HL5.out _ h)
                have ng5 : ¬ G5 g := HMO.out.off.1
                have hlt5 : ∀ z, G5 z → z < wr.heap.size := HB5.out.lt
                have nF5 : ¬ G5 w7.heap.size := fun h => by have := hlt5 _ h; have := hPw.out; omega
                have kr9 := ((KWP.out.then_ K8.out).mono (fun _ _ h => h.elim)).trans s9'.keep (fun _ _ h => h)
                have d0 := cell_keep r0 kr9 nR5
                have d1 := cell_keep r1 kr9 nR5
                have d2 := cell_keep r2 kr9 nR5
                have d3 := cell_keep r3 kr9 nR5
                have d4 := cell_keep r4 kr9 nR5
                have d6 := cell_keep m6 kr9 ng5
                have b9 := (BP.out.keep K8.out (fun h => h)).keep s9'.keep nF5
                have f1 : w9.cell? ⟨w7.heap.size, 1, none⟩ = some (.bool false) := b9.at_ 1
                have o9 := own_keep HO8.out s9'.keep (fun z hz h => by
                  have h1 := own_base HO8.out hz
                  have h2 := hlt5 _ h
                  have h3 := KWP.out.size
                  omega)
                have om9 := own_keep OM.out kr9 (fun z hz h => by
                  obtain ⟨v', hb', ho', hv'⟩ := HMO.out.out
                  have h6 : wr.cell? ⟨g, 6, none⟩ = some v' := hb'.at_ 6
                  rw [m6] at h6
                  injection h6 with h6
                  rw [← h6] at hv'
                  exact (hv' z hz).1 h)
                obtain ⟨hNc, hAs⟩ := own_le OM.out
                obtain ⟨_, hAu⟩ := own_le o9
                have hsr := samerecs_true Au Am cu cm (m.recs.take pl) w9 (own_rd o9) (fun j u hu => (own_rd om9) j u (by
                  have e := rcCells_take m.recs pl
                  rw [← e] at hu
                  rw [List.getElem?_take] at hu
                  split at hu
                  · exact hu
                  · cases hu)) hAu hAs (by rw [HPLT.out]; omega)
                rw [HPLT.out] at hsr
                have HSR := Hid.intro_ hsr
                have HS9 := Hid.intro_ (HSW.out.keep kr9 (fun z hz hz2 h => hnX.out z (by omega) (HL5.out z h)))
                have H9 := Hid.intro_ h9
                have S9 := Hid.intro_ s9'
                have KR9 := Hid.intro_ kr9
                have hmin : min (pl : Int) (N : Int) = (pl : Int) := by omega
                have hsub : IntKind.i64.wrap ((N : Int) - (pl : Int)) = (N : Int) - (pl : Int) := IntWalk.i64_in _ (by omega)
                have hleq : (N : Int) - (pl : Int) ≤ (c.K : Int) := by omega
                have hpl0 : 0 ≤ (pl : Int) := by omega
                have hplc : (pl : Int) ≤ (cm : Int) := by omega
                clear h9 s9' kr9 b9 o9 om9 hsr r0 r1 r2 r3 r4 m5 m6 hNc hAs hAu hwlen hwlt hple
                go_wp2_with (first
                  | (go_at_call 20; refine HSR.out.mono ?_; rintro e w10 ⟨rfl, k10⟩
                     have e0' := cell_keep d0 k10 (fun h => h)
                     have e1' := cell_keep d1 k10 (fun h => h)
                     have e2' := cell_keep d2 k10 (fun h => h)
                     have e3' := cell_keep d3 k10 (fun h => h)
                     have e4' := cell_keep d4 k10 (fun h => h)
                     have e6' := cell_keep d6 k10 (fun h => h)
                     have HKB := Hid.intro_ (kept_bld (H9.out.nil k10) (HS9.out.nil k10) HSH.out hfo.out))
                  | (go_at_call 14; refine HKB.out.mono ?_; rintro e w11 ⟨rfl, ht11⟩)
                  | fail)
                go_ret
                obtain ⟨G11, h11, s11⟩ := ht11
                refine ⟨rfl, hend.out _ (((KR9.out.mono (fun z _ hz => HL5.out z hz)).trans k10 (fun _ _ h => h.elim)).trans (s11.keep.mono (fun z _ hz => ?_)) (fun _ _ h => h))⟩
                rcases S9.out.grow z hz with h | h
                · exact HL5.out z h
                · refine HLY.out z ?_
                  have h1 := HKY.out.size
                  have h2 := KWP.out.size
                  have h3 := hN8.out
                  omega
              · have hd := hs.mdone
                rw [hd] at m5
                by_cases hr : m.recs = []
                · have hN0 : N = 0 := by rw [hN, hr]; rfl
                  have q1 : ((N : Int) == 0) = true := by rw [hN0]; rfl
                  have hsh := hs.shut
                  rw [if_pos hr] at hsh
                  have HKB := Hid.intro_ (kept_bld HB5.out HSW.out hsh hfo.out)
                  clear hs hsh hr hd hN hN0
                  go_wp2_with (go_at_call 14; refine HKB.out.mono ?_; rintro e w9 ⟨rfl, ht9⟩)
                  go_ret
                  obtain ⟨G9, h9, s9'⟩ := ht9
                  exact ⟨rfl, hend.out _ (s9'.keep.mono (fun z _ hz => HL5.out z hz))⟩
                · have hN0 : 1 ≤ N := by rw [hN]; exact List.length_pos_iff.2 hr
                  have q1 : ((N : Int) == 0) = false := by simp; omega
                  have hsh := hs.shut
                  rw [if_neg hr] at hsh
                  have HSH := Hid.intro_ hsh
                  clear hs hsh hr hd hN
                  obtain ⟨hNc, hAs⟩ := own_le OM.out
                  have htape : ∀ W', Keep Nil wr W' → Calls Tryz.prog 22 #[.string nmOut, .int .i64 2, .slice Am N cm, .int .i64 c.block] W' (fun e w' => ∃ v, e = .returned (.agg #[.string nmOut, .bool true, v]) ∧ FsAt w' (fun b => W'.heap.size ≤ b) v (blocksB 2 m.recs c.block) ∧ Keep Nil W' w') := fun W' k' => by
                    have hN' := HN.out
                    have := tape_any nmOut 2 c.block Am cm m.recs W' (by omega) HB1.out ⟨by omega, by omega⟩ ((own_rd OM.out).keep k' (fun _ _ _ h => h)) hAs HMOK.out.oks
                    rw [← HN.out] at this
                    exact this
                  have HTAPE := Hid.intro_ htape
                  have hbl40 : (blocksB 2 m.recs c.block).length ≤ 1099511627776 := by
                    rw [blocksB_len]
                    have hN' := HN.out
                    have h1 := nblk_le (c.block / 32 - 1) m.recs.length (by have := HB1.out; omega)
                    omega
                  have hmade : ∀ W' Av cv, Keep Nil wr W' → FsAt W' (fun _ => True) (.slice Av (blocksB 2 m.recs c.block).length cv) (blocksB 2 m.recs c.block) → Calls Tryz.prog 21 #[.agg #[.pointer (some ⟨c.d, 0, none⟩), .pointer (some ⟨c.p, 0, none⟩), .pointer (some ⟨c.k, 0, none⟩), .int .i64 c.block, .slice As 2 cs], .slice (some ⟨W'.heap.size, 0, none⟩) 1 1]
                      (W'.alloc (.cells #[.string nmOut, .bool true, .slice Av (blocksB 2 m.recs c.block).length cv] 55)) fun e w' => e = .returned (.bool true) ∧ BldTo c bb bl G5 s5 x5 y5 (W'.alloc (.cells #[.string nmOut, .bool true, .slice Av (blocksB 2 m.recs c.block).length cv] 55)) w' := fun W' Av cv k' hfs => by
                    have ka := k'.alloc (.cells #[.string nmOut, .bool true, .slice Av (blocksB 2 m.recs c.block).length cv] 55)
                    exact made_bld (HB5.out.nil ka) (HSW.out.nil ka) (one_file (f := (nmOut, ⟨true, blocksB 2 m.recs c.block⟩)) hfs) HSH.out hfo.out (by show nmOut.size ≤ 32; decide +kernel) (fun b hb => blocksB_bytes 2 m.recs (by omega) b hb) hbl40 (by show 2 < 1099511627776; decide)
                  have HMADE := Hid.intro_ hmade
                  have HBL40 := Hid.intro_ hbl40
                  have nR5 : ¬ G5 w2.heap.size := fun h => hnR (HL5.out _ h)
                  have ng5 : ¬ G5 g := HMO.out.off.1
                  have HAS := Hid.intro_ hAs
                  clear htape hmade hbl40 hAs
                  have hSk : Hid (∀ W', Keep G5 wr W' → (W'.cell? ⟨w2.heap.size, 0, none⟩ = some (.pointer (some ⟨c.d, 0, none⟩)) ∧ W'.cell? ⟨w2.heap.size, 1, none⟩ = some (.pointer (some ⟨c.p, 0, none⟩)) ∧ W'.cell? ⟨w2.heap.size, 2, none⟩ = some (.pointer (some ⟨c.k, 0, none⟩)) ∧ W'.cell? ⟨w2.heap.size, 3, none⟩ = some (.int .i64 c.block) ∧ W'.cell? ⟨w2.heap.size, 4, none⟩ = some (.slice As 2 cs) ∧ W'.cell? ⟨g, 6, none⟩ = some (.slice Am N cm))) := fun W' k' =>
                    ⟨cell_keep r0 k' nR5, cell_keep r1 k' nR5, cell_keep r2 k' nR5, cell_keep r3 k' nR5, cell_keep r4 k' nR5, cell_keep m6 k' ng5⟩
                  have hno : ∀ W', Keep Nil wr W' → Keep G5 wr W' := fun W' k' => k'.mono fun _ _ h => h.elim
                  have HNO := Hid.intro_ hno
                  clear hno
                  go_wp2_with fail
                  go_region_held3 (fun W' => W'.cell? ⟨w2.heap.size, 0, none⟩ = some (.pointer (some ⟨c.d, 0, none⟩)) ∧ W'.cell? ⟨w2.heap.size, 1, none⟩ = some (.pointer (some ⟨c.p, 0, none⟩)) ∧ W'.cell? ⟨w2.heap.size, 2, none⟩ = some (.pointer (some ⟨c.k, 0, none⟩)) ∧ W'.cell? ⟨w2.heap.size, 3, none⟩ = some (.int .i64 c.block) ∧ W'.cell? ⟨w2.heap.size, 4, none⟩ = some (.slice As 2 cs) ∧ W'.cell? ⟨g, 6, none⟩ = some (.slice Am N cm))
                    (first | exact ⟨r0, r1, r2, r3, r4, m6⟩ | exact hSk.out _ (HNO.out _ K6.out) | exact hSk.out _ (HNO.out _ (K6.out.alloc _)) | exact hSk.out _ KM.out)
                    (first
                      | (go_at_call 22; refine (HTAPE.out _ (Keep.refl Nil wr).drew).mono ?_; rintro e w6 ⟨v6, rfl, hfs6, k6⟩
                         obtain ⟨Av, cv, vs6, rfl, _⟩ := hfs6.out
                         have K6 := Hid.intro_ ((Keep.refl Nil wr).drew.then_ k6)
                         have HM6 := Hid.intro_ (HMADE.out w6 Av cv K6.out (hfs6.mono (fun _ _ _ => trivial)))
                         clear hfs6 k6)
                      | (go_at_call 21; refine HM6.out.mono ?_; rintro e w7 ⟨rfl, G7, h7, s7⟩
                         have KM := Hid.intro_ (((HNO.out _ K6.out).alloc _).then_ s7.keep)
                         clear h7 s7))
                  all_goals
                    go_wp2_with fail
                    go_ret
                    exact ⟨rfl, hend.out _ (KM.out.mono (fun z _ hz => HL5.out z hz))⟩
        · have hX1 : (begins s0 c.K Pn vars).1 = Pw := HBP.out.1.resolve_right hwant
          obtain ⟨hX2, hX3⟩ := HBP.out.2.1 hwant
          have hret : ∀ e w3, BgP c G (begins s0 c.K Pn vars) s0 Pn vars Y e w3 → e = .returned (.tuple #[.pointer none, .int .i64 Pw]) ∧ RmTo c G s0 Y w3 := fun e w3 hq => by
            rcases hq.out with ⟨_, he, ht⟩ | ⟨h0, _⟩
            · rw [hX2, hX3] at ht
              rw [hX1] at he
              exact ⟨he, ht⟩
            · rw [hX1] at h0; exact absurd h0 hwant
          have HBG := Hid.intro_ (hbg.mono hret)
          have q0 : (Pw != Pw) = false := by simp
          have q1 : (Pw != 0) = true := by simpa using hwant
          clear hX1 hX2 hX3 hret hbg hwant
          go_wp2_with (first | (go_at_call 13; with_reducible refine (HBN.out _).mono ?_; rintro e w' ⟨rfl, rfl⟩) | fail)
          rw [← hY]
          refine HBG.out.mono ?_
          rintro e w3 ⟨rfl, G3, h3, s3⟩
          have br3 := BR.out.keep s3.keep (fun h => Nat.lt_irrefl _ (HGL.out _ h))
          have r0' : w3.cell? ⟨w2.heap.size, 0, none⟩ = some (.pointer (some ⟨c.d, 0, none⟩)) := br3.at_ 0
          have r1' : w3.cell? ⟨w2.heap.size, 1, none⟩ = some (.pointer (some ⟨c.p, 0, none⟩)) := br3.at_ 1
          have r2' : w3.cell? ⟨w2.heap.size, 2, none⟩ = some (.pointer (some ⟨c.k, 0, none⟩)) := br3.at_ 2
          have r3' : w3.cell? ⟨w2.heap.size, 3, none⟩ = some (.int .i64 c.block) := br3.at_ 3
          have r4' : w3.cell? ⟨w2.heap.size, 4, none⟩ = some (.slice As 2 cs) := br3.at_ 4
          have hs3 := HSY.out.keep s3.keep (fun b hb _ hg => by have := HGX.out b hg; omega)
          have HKR := Hid.intro_ (kept_rm h3 hs3 HCALM.out (List.Perm.refl _) hfo.out.rises hfo.out.short hfo.out.bytes hfo.out.few (by rw [HSS.out]; rfl))
          have K3 := Hid.intro_ s3.keep
          have S3 := Hid.intro_ s3
          clear h3 s3 br3 hs3 hY r0 r1 r2 r3 r4
          go_wp2_with (go_at_call 14; refine HKR.out.mono ?_; rintro e w4 ⟨rfl, ht4⟩)
          go_ret
          obtain ⟨G4, h4, s4⟩ := ht4
          exact ⟨rfl, hkw.out _ (S3.out.trans s4).keep⟩

set_option maxRecDepth 100000 in
set_option maxHeartbeats 1000000 in
/-- A script longer than any disk holds. -/
theorem builds_huge (w : World) (vars a b : Int) (A : Option Addr) (n cap : Nat) (hn : 268435456 < n) :
    Calls Tryz.prog 3 #[.int .i64 vars, .slice A n cap, .agg #[.int .i64 a, .int .i64 b]] w fun e w' => e = .returned (.bool true) ∧ Keep Nil w w' := by
  have hhu : ∀ W, Calls Tryz.prog 8 #[.int .i64 n] W fun e w' => e = .returned (.bool true) ∧ w' = W := fun W => by
    have := huge_any n W
    rw [decide_eq_true (by omega)] at this
    exact this
  have k0 := (Keep.refl Nil w).alloc (.cells #[.int .i64 a, .int .i64 b] 23)
  go_enter Tryz.func3, Tryz.ntmps3
  go_wp2_with (go_at_call 8; refine (hhu _).mono ?_; rintro e w' ⟨rfl, rfl⟩)
  go_ret
  exact ⟨rfl, k0⟩
end Go.Proofs.YtadipinnbehhhaaGreatDoor
