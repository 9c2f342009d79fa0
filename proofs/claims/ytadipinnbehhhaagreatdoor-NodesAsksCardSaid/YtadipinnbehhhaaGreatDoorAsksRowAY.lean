/- NodesAsks: the law. NodesAsks: too many records: nothing is claimed. -/
import Derived.Test.YtadipinnbehhhaaGreatDoorAsksRowAX
namespace Go.Proofs.YtadipinnbehhhaaGreatDoor
open Go.RowKit

theorem FmPost.dg {L : List R4} {w w' : World} {x : Ending} (h : FmPost L w x w') : ∃ d A c, x = .returned (.agg #[.int .i64 d.v, .int .u64 d.r, .int .i64 d.m, .slice A d.P.length c]) ∧ Hid (DgOk d ∧ (d.P.length = 0 ∨ d.P.length + 1 ≤ L.length) ∧ DgAt w' d A ∧ Keep Nil w w') := by
  obtain ⟨d, A, c, base, he, hok, hl, _, ho, k⟩ := h.out
  refine ⟨d, A, c, he, Hid.intro_ ⟨hok, hl, ⟨own_rd ho, fun a ha => ?_⟩, k⟩⟩
  rcases ho.2 with ⟨e, _⟩ | ⟨g, cp, cur, e, _⟩
  · injection e with e1; rw [e1] at ha; cases ha
  · injection e with e1; rw [e1] at ha; injection ha with ha; subst ha; rfl
/-- Two files in memory, in a row of their own. -/
theorem two_row {w X : World} {B : Nat} {f g : ByteArray × AFile} {Av Bv : Option Addr} {cv cv2 : Nat} (hB : B ≤ w.heap.size) (h : FsAt w (fun z => B ≤ z) (.slice Av f.2.blocks.length cv) f.2.blocks) (h2 : FsAt w (fun z => B ≤ z) (.slice Bv g.2.blocks.length cv2) g.2.blocks) (hX : X = w.alloc (.cells #[.string f.1, .bool f.2.done, .slice Av f.2.blocks.length cv, .string g.1, .bool g.2.done, .slice Bv g.2.blocks.length cv2] 55)) :
    FlAt X (fun z => B ≤ z) (.slice (some ⟨w.heap.size, 0, none⟩) 2 2) [f, g] := by
  have kX : Keep Nil w X := by rw [hX]; exact (Keep.refl Nil w).alloc _
  have bX : Blk X w.heap.size 55 #[.string f.1, .bool f.2.done, .slice Av f.2.blocks.length cv, .string g.1, .bool g.2.done, .slice Bv g.2.blocks.length cv2] := by rw [hX]; exact Blk.new w _ _
  refine ⟨some ⟨w.heap.size, 0, none⟩, 2, [.slice Av f.2.blocks.length cv, .slice Bv g.2.blocks.length cv2], rfl, rfl, fun j u hu => ⟨_, rfl, ?_⟩, fun a e => ?_, fun a e => ?_, fun j r f' hr hf => ?_⟩
  · rw [add_at, Nat.zero_add, bX.at_ j, ← Array.getElem?_toList]
    exact hu
  · injection e with e
    subst e
    exact ⟨hB, bX.lt, rfl⟩
  · injection e with e
    subst e
    exact ⟨_, _, bX⟩
  · match j with
    | 0 => injection hr with hr; injection hf with hf; subst hr hf; exact h.nil kX
    | 1 => injection hr with hr; injection hf with hf; subst hr hf; exact h2.nil kX
    | j + 2 => simp at hr
theorem wr3 (Jn Je : Nat) (h1 : Jn + 1 ≤ 536870912) (h2 : Je ≤ 268435456) : wrap64 ((Jn : Int) + 1 + Je) = (Jn : Int) + 1 + Je ∧ wrap64 ((Jn : Int) + 1 + Je + 1) = (Jn : Int) + 1 + Je + 1 := ⟨wrap_low _ (by omega), wrap_low _ (by omega)⟩
theorem i64_wrap (n : Int) : IntKind.i64.wrap n = wrap64 n := by rw [IntKind.wrap_i64]; unfold wrap64; rfl
theorem wr4 (Jn Je : Nat) (dz : Int) (h : dz ≤ ((Jn + Je + 2 : Nat) : Int)) : dz ≤ (Jn : Int) + 1 + Je + 1 := by omega
theorem own_cap {w : World} {base n c size : Nat} {t : TypeId} {A : Option Addr} {xs : List Value} (h : w.ownsRow base t size (.slice A n c) n xs) : n ≤ c ∧ ∀ a, A = some a → a.spot = none := by
  rcases h.2 with ⟨e, h0⟩ | ⟨g, cp, cur, e, _, _, hle, _⟩
  · injection e with e1 e2 e3
    exact ⟨by omega, fun a ha => by rw [e1] at ha; cases ha⟩
  · injection e with e1 e2 e3
    exact ⟨by omega, fun a ha => by rw [e1] at ha; injection ha with ha; subst ha; rfl⟩
theorem law_recs (d : Dg) (A : Option Addr) (c : Nat) (W : World) (hd : InRows d) (hr : DgAt W d A) :
    Calls Tryz.prog 34 #[.agg #[.int .i64 d.v, .int .u64 d.r, .int .i64 d.m, .slice A d.P.length c]] W fun x w' => ∃ Au cu, x = .returned (.slice Au (d.P.length + 1) cu) ∧ Hid (Rd w' Au (rcCells (recsD d)) ∧ (∀ a, Au = some a → a.spot = none) ∧ d.P.length + 1 ≤ cu ∧ Keep Nil W w') := by
  have h1 := hd.lt
  have h2 := hd.len
  have h3 := hd.vars
  refine (recs_any d.v d.r d.m d.P A c W hr.rd hr.spot (by omega) (by omega) (by omega)).mono fun x w' ⟨u, hx, ho, k⟩ => ?_
  obtain ⟨Au, cu, rfl⟩ := own_form ho
  obtain ⟨q1, q2⟩ := own_cap ho
  exact ⟨Au, cu, hx, Hid.intro_ ⟨own_rd ho, q2, q1, k⟩⟩
theorem law_tape (s : ByteArray) (d : Dg) (Au : Option Addr) (cu block : Nat) (W : World) (hb : 64 ≤ block ∧ block ≤ 65536 ∧ block % 32 = 0) (hd : InRows d) (hc : Rd W Au (rcCells (recsD d))) (hA : ∀ a, Au = some a → a.spot = none) (hcu : d.P.length + 1 ≤ cu) :
    Calls Tryz.prog 22 #[.string s, .int .i64 2, .slice Au (d.P.length + 1) cu, .int .i64 block] W fun x w' => ∃ Av cv, x = .returned (.agg #[.string s, .bool true, .slice Av (blocksB 2 (recsD d) block).length cv]) ∧ Hid (FsAt w' (fun b => W.heap.size ≤ b) (.slice Av (blocksB 2 (recsD d) block).length cv) (blocksB 2 (recsD d) block) ∧ Keep Nil W w') := by
  have h1 := hd.lt
  have h2 := hd.len
  have := tape_any s 2 block Au cu (recsD d) W (by omega) hb (by rw [recsD_len]; omega) hc hA hd.oks
  rw [recsD_len] at this
  refine this.mono fun x w' ⟨v, hx, hf, k⟩ => ?_
  obtain ⟨Av, cv, vs, hv, _⟩ := hf.out
  subst hv
  exact ⟨Av, cv, hx, Hid.intro_ ⟨hf, k⟩⟩
set_option maxRecDepth 100000 in
set_option maxHeartbeats 16000000 in
theorem asks_true (w : World) (E : Nat → Addr) (b b' : Int) (A1 A2 Al : Option Addr) (cap1 cap2 cl : Nat) (L1 L2 : List R4) (ls : List (List Bool)) (hb : -9223372036854775808 ≤ b ∧ b ≤ 9223372036854775807)
    (hr1 : Rd w A1 (rcCells L1)) (hr2 : Rd w A2 (rcCells L2)) (ho1 : ∀ r ∈ L1, r.Ok) (ho2 : ∀ r ∈ L2, r.Ok) (hll : LlAt w Al ls) (hls : ls.length ≤ 9223372036854775807)
    (he : ErrsAt w E) (hh : HalvesAt w) (hm : MagicAt w) (hle1 : L1.length ≤ 268435456) (hle2 : L2.length ≤ 268435456) :
    Calls Tryz.prog 5 #[.agg #[.slice A1 L1.length cap1, .int .i64 b], .agg #[.slice A2 L2.length cap2, .int .i64 b'], .slice Al ls.length cl] w fun e w' => e = .returned (.bool true) ∧ Keep Nil w w' := by
  have hwi := within_bd b
  have hbl := lblock_any b hb
  have hK := fit_K hwi
  obtain ⟨block, hblock⟩ : ∃ block : Nat, (block : Int) = 64 + 32 * within b 9 := ⟨(64 + 32 * within b 9).toNat, by omega⟩
  obtain ⟨K, hKK⟩ : ∃ K : Nat, (K : Int) = 1 + within b 9 := ⟨(1 + within b 9).toNat, by omega⟩
  rw [← hblock] at hbl hK
  rw [← hKK] at hK
  have hb1 : 64 ≤ block ∧ block ≤ 65536 ∧ block % 32 = 0 := by omega
  have hK0 : 0 < K := by omega
  have hK9 : K ≤ 9 := by omega
  obtain ⟨N1, hN1⟩ : ∃ N1, N1 = L1.length := ⟨_, rfl⟩
  obtain ⟨N2, hN2⟩ : ∃ N2, N2 = L2.length := ⟨_, rfl⟩
  have hhu1 : ∀ W, Calls Tryz.prog 8 #[.int .i64 N1] W fun e w' => e = .returned (.bool false) ∧ w' = W := fun W => by
    have := huge_any N1 W
    rw [decide_eq_false (by omega)] at this
    exact this
  have hhu2 : ∀ W, Calls Tryz.prog 8 #[.int .i64 N2] W fun e w' => e = .returned (.bool false) ∧ w' = W := fun W => by
    have := huge_any N2 W
    rw [decide_eq_false (by omega)] at this
    exact this
  have hf1 : ∀ W, Keep Nil w W → Calls Tryz.prog 33 #[.slice A1 N1 cap1] W (FmPost L1 W) := fun W k => by
    rw [hN1]
    exact lformed_any A1 cap1 L1 W (hr1.keep k (fun _ _ _ h => h)) ho1 (by omega)
  have hf2 : ∀ W, Keep Nil w W → Calls Tryz.prog 33 #[.slice A2 N2 cap2] W (FmPost L2 W) := fun W k => by
    rw [hN2]
    exact lformed_any A2 cap2 L2 W (hr2.keep k (fun _ _ _ h => h)) ho2 (by omega)
  obtain ⟨n, hnn⟩ : ∃ n, n = ls.length := ⟨_, rfl⟩
  rw [← hN1, ← hN2, ← hnn]
  obtain ⟨W, hW⟩ : ∃ W, W = (w.alloc (.cells #[.slice A1 N1 cap1, .int .i64 b] 67)).alloc (.cells #[.slice A2 N2 cap2, .int .i64 b'] 67) := ⟨_, rfl⟩
  have kW : Keep Nil w W := by rw [hW]; exact ((Keep.refl Nil w).alloc _).alloc _
  have bC1 : Blk W w.heap.size 67 #[.slice A1 N1 cap1, .int .i64 b] := by rw [hW]; exact (Blk.new w _ _).alloc _
  have bC2 : Blk W (w.heap.size + 1) 67 #[.slice A2 N2 cap2, .int .i64 b'] := by rw [hW]; exact Blk.new_at _ _ _ (by simp)
  have w0 : W.cell? ⟨w.heap.size, 0, none⟩ = some (.slice A1 N1 cap1) := bC1.at_ 0
  have w1' : W.cell? ⟨w.heap.size, 1, none⟩ = some (.int .i64 b) := bC1.at_ 1
  have v0 : W.cell? ⟨w.heap.size + 1, 0, none⟩ = some (.slice A2 N2 cap2) := bC2.at_ 0
  have hWs : W.heap.size = w.heap.size + 1 + 1 := by rw [hW]; simp
  have HWS := Hid.intro_ hWs
  have HF1 := Hid.intro_ hf1
  have HF2 := Hid.intro_ hf2
  have HHU1 := Hid.intro_ hhu1
  have HHU2 := Hid.intro_ hhu2
  have HBL := Hid.intro_ hbl
  have HB1 := Hid.intro_ hb1
  have HLL := Hid.intro_ hll
  have HE := Hid.intro_ he
  have HH := Hid.intro_ hh
  have HM := Hid.intro_ hm
  have HK := Hid.intro_ hK
  have KW := Hid.intro_ kW
  have BC2 := Hid.intro_ bC2
  have HNN := Hid.intro_ hnn
  have HN1 := Hid.intro_ (show L1.length ≤ 268435456 ∧ L2.length ≤ 268435456 from ⟨hle1, hle2⟩)
  have hn63 : n ≤ 9223372036854775807 := by omega
  clear hbl hblock hKK hwi hr1 hr2 ho1 ho2 hll hls he hh hm hb1 hK kW bC1 bC2 hhu1 hhu2 hf1 hf2 hnn hWs hN1 hN2 hle1 hle2 hb
  go_enter Tryz.func5, Tryz.ntmps5
  go_upto_region 1 with (fail)
  rw [← hW]
  clear hW
  go_upto_region 4 with (first
    | (go_at_call 8; with_reducible refine (HHU1.out _).mono ?_; rintro e w' ⟨rfl, hw⟩; obtain rfl := hw.symm)
    | (go_at_call 8; with_reducible refine (HHU2.out _).mono ?_; rintro e w' ⟨rfl, hw⟩; obtain rfl := hw.symm)
    | (go_at_call 9; refine (HBL.out _).mono ?_; rintro e w' ⟨rfl, hw⟩; obtain rfl := hw.symm)
    | fail)
  go_wp2_with fail
  refine (HF1.out W KW.out).mono ?_
  rintro x w1 hp1
  obtain ⟨d, A3, c3, rfl, HD⟩ := hp1.dg
  have v1 := cell_keep v0 HD.out.2.2.2 (fun h => h)
  obtain ⟨V1, hV1⟩ : ∃ V1, V1 = w1.alloc (.cells #[.int .i64 d.v, .int .u64 d.r, .int .i64 d.m, .slice A3 d.P.length c3] 86) := ⟨_, rfl⟩
  have KV1 := Hid.intro_ (show Keep Nil w V1 by rw [hV1]; exact (KW.out.then_ HD.out.2.2.2).alloc _)
  have BD1 := Hid.intro_ (show Blk V1 w1.heap.size 86 #[.int .i64 d.v, .int .u64 d.r, .int .i64 d.m, .slice A3 d.P.length c3] by rw [hV1]; exact Blk.new w1 _ _)
  have HD1 := Hid.intro_ (show DgAt V1 d A3 by rw [hV1]; exact HD.out.2.2.1.nil ((Keep.refl Nil w1).alloc _))
  have v2 : V1.cell? ⟨w.heap.size + 1, 0, none⟩ = some (.slice A2 N2 cap2) := by rw [hV1]; exact cell_keep v1 ((Keep.refl Nil w1).alloc _) (fun h => h)
  have hl1 := HD.out.2.2.2.size
  clear hp1 w0 w1' v0 v1
  go_upto_region 5 with (fail)
  rw [← hV1]
  clear hV1
  go_wp2_with fail
  refine (HF2.out V1 KV1.out).mono ?_
  rintro x w2 hp2
  obtain ⟨e, A4, c4, rfl, HDe⟩ := hp2.dg
  obtain ⟨V2, hV2⟩ : ∃ V2, V2 = w2.alloc (.cells #[.int .i64 e.v, .int .u64 e.r, .int .i64 e.m, .slice A4 e.P.length c4] 86) := ⟨_, rfl⟩
  have kV12 : Keep Nil V1 V2 := by rw [hV2]; exact HDe.out.2.2.2.alloc _
  have KV2 := Hid.intro_ (KV1.out.then_ kV12)
  have BD1 := Hid.intro_ (BD1.out.keep kV12 (fun h => h))
  have BD2 := Hid.intro_ (show Blk V2 w2.heap.size 86 #[.int .i64 e.v, .int .u64 e.r, .int .i64 e.m, .slice A4 e.P.length c4] by rw [hV2]; exact Blk.new w2 _ _)
  have HD1 := Hid.intro_ (HD1.out.nil kV12)
  have HD2 := Hid.intro_ (show DgAt V2 e A4 by rw [hV2]; exact HDe.out.2.2.1.nil ((Keep.refl Nil w2).alloc _))
  clear hp2 v2 kV12
  go_upto_region 6 with (fail)
  rw [← hV2]
  clear hV2
  have d0 : V2.cell? ⟨w1.heap.size, 0, none⟩ = some (.int .i64 d.v) := BD1.out.at_ 0
  have d1 : V2.cell? ⟨w1.heap.size, 1, none⟩ = some (.int .u64 d.r) := BD1.out.at_ 1
  have d2 : V2.cell? ⟨w1.heap.size, 2, none⟩ = some (.int .i64 d.m) := BD1.out.at_ 2
  have d3 : V2.cell? ⟨w1.heap.size, 3, none⟩ = some (.slice A3 d.P.length c3) := BD1.out.at_ 3
  have HRC1 := Hid.intro_ (law_recs d A3 c3 V2 HD.out.1.rows HD1.out)
  go_wp2_with fail
  refine HRC1.out.mono ?_
  rintro x w3 ⟨Au, cu, rfl, hu⟩
  have HTP1 := Hid.intro_ (law_tape nmF d Au cu block w3 HB1.out HD.out.1.rows hu.out.1 hu.out.2.1 hu.out.2.2.1)
  go_wp2_with fail
  refine HTP1.out.mono ?_
  rintro x w4 ⟨Av, cv, rfl, hv⟩
  obtain ⟨V3, hV3⟩ : ∃ V3, V3 = w4.alloc (.cells #[.string nmF, .bool true, .slice Av (blocksB 2 (recsD d) block).length cv] 55) := ⟨_, rfl⟩
  have kV23 : Keep Nil V2 V3 := by rw [hV3]; exact (hu.out.2.2.2.then_ hv.out.2).alloc _
  have KV3 := Hid.intro_ (KV2.out.then_ kV23)
  have BD1 := Hid.intro_ (BD1.out.keep kV23 (fun h => h))
  have BD2 := Hid.intro_ (BD2.out.keep kV23 (fun h => h))
  have HD1 := Hid.intro_ (HD1.out.nil kV23)
  have HD2 := Hid.intro_ (HD2.out.nil kV23)
  have BF1 := Hid.intro_ (show Blk V3 w4.heap.size 55 #[.string nmF, .bool true, .slice Av (blocksB 2 (recsD d) block).length cv] by rw [hV3]; exact Blk.new w4 _ _)
  have FS1 := Hid.intro_ (show FsAt V3 (fun z => w.heap.size ≤ z) (.slice Av (blocksB 2 (recsD d) block).length cv) (blocksB 2 (recsD d) block) by
    have : FsAt V3 (fun z => w3.heap.size ≤ z) (.slice Av (blocksB 2 (recsD d) block).length cv) (blocksB 2 (recsD d) block) := by rw [hV3]; exact hv.out.1.nil ((Keep.refl Nil w4).alloc _)
    exact this.mono (fun z hz _ => Nat.le_trans (Nat.le_trans KV2.out.size hu.out.2.2.2.size) hz))
  clear d0 d1 d2 d3 hu hv kV23
  go_upto_region 7 with (fail)
  rw [← hV3]
  clear hV3
  have e0 : V3.cell? ⟨w2.heap.size, 0, none⟩ = some (.int .i64 e.v) := BD2.out.at_ 0
  have e1 : V3.cell? ⟨w2.heap.size, 1, none⟩ = some (.int .u64 e.r) := BD2.out.at_ 1
  have e2 : V3.cell? ⟨w2.heap.size, 2, none⟩ = some (.int .i64 e.m) := BD2.out.at_ 2
  have e3 : V3.cell? ⟨w2.heap.size, 3, none⟩ = some (.slice A4 e.P.length c4) := BD2.out.at_ 3
  have HRC2 := Hid.intro_ (law_recs e A4 c4 V3 HDe.out.1.rows HD2.out)
  go_wp2_with fail
  refine HRC2.out.mono ?_
  rintro x w5 ⟨Bu, cu2, rfl, hu⟩
  have HTP2 := Hid.intro_ (law_tape nmG e Bu cu2 block w5 HB1.out HDe.out.1.rows hu.out.1 hu.out.2.1 hu.out.2.2.1)
  go_wp2_with fail
  refine HTP2.out.mono ?_
  rintro x w6 ⟨Bv, cv2, rfl, hv⟩
  obtain ⟨V4, hV4⟩ : ∃ V4, V4 = w6.alloc (.cells #[.string nmG, .bool true, .slice Bv (blocksB 2 (recsD e) block).length cv2] 55) := ⟨_, rfl⟩
  have kV34 : Keep Nil V3 V4 := by rw [hV4]; exact (hu.out.2.2.2.then_ hv.out.2).alloc _
  have KV4 := Hid.intro_ (KV3.out.then_ kV34)
  have BD1 := Hid.intro_ (BD1.out.keep kV34 (fun h => h))
  have BD2 := Hid.intro_ (BD2.out.keep kV34 (fun h => h))
  have BF1 := Hid.intro_ (BF1.out.keep kV34 (fun h => h))
  have HD1 := Hid.intro_ (HD1.out.nil kV34)
  have HD2 := Hid.intro_ (HD2.out.nil kV34)
  have FS1 := Hid.intro_ (FS1.out.nil kV34)
  have BF2 := Hid.intro_ (show Blk V4 w6.heap.size 55 #[.string nmG, .bool true, .slice Bv (blocksB 2 (recsD e) block).length cv2] by rw [hV4]; exact Blk.new w6 _ _)
  have FS2 := Hid.intro_ (show FsAt V4 (fun z => w.heap.size ≤ z) (.slice Bv (blocksB 2 (recsD e) block).length cv2) (blocksB 2 (recsD e) block) by
    have : FsAt V4 (fun z => w5.heap.size ≤ z) (.slice Bv (blocksB 2 (recsD e) block).length cv2) (blocksB 2 (recsD e) block) := by rw [hV4]; exact hv.out.1.nil ((Keep.refl Nil w6).alloc _)
    exact this.mono (fun z hz _ => Nat.le_trans (Nat.le_trans KV3.out.size hu.out.2.2.2.size) hz))
  clear e0 e1 e2 e3 hu hv kV34
  go_upto_region 8 with (fail)
  rw [← hV4]
  clear hV4
  have f0 : V4.cell? ⟨w4.heap.size, 0, none⟩ = some (.string nmF) := BF1.out.at_ 0
  have f1 : V4.cell? ⟨w4.heap.size, 1, none⟩ = some (.bool true) := BF1.out.at_ 1
  have f2 : V4.cell? ⟨w4.heap.size, 2, none⟩ = some (.slice Av (blocksB 2 (recsD d) block).length cv) := BF1.out.at_ 2
  have g0 : V4.cell? ⟨w6.heap.size, 0, none⟩ = some (.string nmG) := BF2.out.at_ 0
  have g1 : V4.cell? ⟨w6.heap.size, 1, none⟩ = some (.bool true) := BF2.out.at_ 1
  have g2 : V4.cell? ⟨w6.heap.size, 2, none⟩ = some (.slice Bv (blocksB 2 (recsD e) block).length cv2) := BF2.out.at_ 2
  obtain ⟨X0, hX0⟩ : ∃ X0, X0 = V4.alloc (.cells #[.string nmF, .bool true, .slice Av (blocksB 2 (recsD d) block).length cv, .string nmG, .bool true, .slice Bv (blocksB 2 (recsD e) block).length cv2] 55) := ⟨_, rfl⟩
  have hfl := two_row (f := (nmF, ndFile (recsD d) block)) (g := (nmG, ndFile (recsD e) block)) KV4.out.size FS1.out FS2.out hX0
  have HST := Hid.intro_ (stray2_any w.heap.size block (ndFile (recsD d) block) (ndFile (recsD e) block) (some ⟨V4.heap.size, 0, none⟩) 2 X0 HB1.out (by rw [hX0]; have := KV4.out.size; simp; omega) hfl)
  have KX0 := Hid.intro_ (show Keep Nil V4 X0 by rw [hX0]; exact (Keep.refl Nil V4).alloc _)
  clear hfl
  go_wp2_with fail
  rw [← hX0]
  clear hX0 f0 f1 f2 g0 g1 g2
  refine HST.out.mono ?_
  rintro x X hq
  obtain ⟨As, cs, rfl, hst, kx⟩ := hq.out
  have KX := Hid.intro_ (KV4.out.then_ (KX0.out.then_ kx))
  have BD1 := Hid.intro_ (BD1.out.keep (KX0.out.then_ kx) (fun h => h))
  have BD2 := Hid.intro_ (BD2.out.keep (KX0.out.then_ kx) (fun h => h))
  have BF1 := Hid.intro_ (BF1.out.keep (KX0.out.then_ kx) (fun h => h))
  have BF2 := Hid.intro_ (BF2.out.keep (KX0.out.then_ kx) (fun h => h))
  have HD1 := Hid.intro_ (HD1.out.nil (KX0.out.then_ kx))
  have HD2 := Hid.intro_ (HD2.out.nil (KX0.out.then_ kx))
  have HSTX := Hid.intro_ (show StAt X (fun z => z < X.heap.size) (.agg #[.int .i64 block, .slice As 4 cs]) block (akFs (recsD d) (recsD e) block) from hst.mono (fun z _ hz => hz))
  have hlen1 : (recsD d).length ≤ 268435456 := by rw [recsD_len]; have := HD.out.2.1; have := HN1.out.1; omega
  have hlen2 : (recsD e).length ≤ 268435456 := by rw [recsD_len]; have := HDe.out.2.1; have := HN1.out.2; omega
  have HL12 := Hid.intro_ (And.intro hlen1 hlen2)
  have HWH := Hid.intro_ (whole_ok E block K (akFs (recsD d) (recsD e) block) As 4 cs X HSTX.out HB1.out rg_ok (fun f hf b hb => by rw [ak_blocks HK.out hK0 f hf b hb]) ak_bytes rg_rises (by have := ak_total (L1 := recsD d) (L2 := recsD e) HK.out hK0; omega) (ak_few HK.out hK0 hlen1 hlen2) HK.out hK0 hK9 (HE.out.keep KX.out (fun _ _ h => h) (fun _ _ h => h)) (HH.out.keep KX.out (fun h => h)) (HM.out.keep KX.out (fun h => h)))
  clear hq hst kx hlen1 hlen2
  go_wp2_with fail
  refine HWH.out.mono ?_
  rintro x w8 hp8
  obtain ⟨dd, pp, lk, kk, G, rfl, hrm, hG, k8⟩ := hp8.out
  obtain ⟨V, hV⟩ : ∃ V, V = w8.alloc (.cells #[.pointer (some ⟨dd, 0, none⟩), .pointer (some ⟨pp, 0, none⟩), .pointer (some ⟨kk, 0, none⟩), .int .i64 block, .slice As 4 cs] 35) := ⟨_, rfl⟩
  have kV8 : Keep Nil w8 V := by rw [hV]; exact (Keep.refl Nil w8).alloc _
  have KXV := Hid.intro_ (k8.then_ kV8)
  have BR := Hid.intro_ (show Blk V w8.heap.size 35 #[.pointer (some ⟨dd, 0, none⟩), .pointer (some ⟨pp, 0, none⟩), .pointer (some ⟨kk, 0, none⟩), .int .i64 block, .slice As 4 cs] by rw [hV]; exact Blk.new w8 _ _)
  have HNR := Hid.intro_ (show ¬ G w8.heap.size from fun h => Nat.lt_irrefl _ (hrm.lt _ h))
  have hrV := hrm.nil kV8
  have BF1V := BF1.out.keep KXV.out (fun h => h)
  have f2 : V.cell? ⟨w4.heap.size, 2, none⟩ = some (.slice Av (blocksB 2 (recsD d) block).length cv) := BF1V.at_ 2
  obtain ⟨c, hc⟩ : ∃ c : Cx, c = ⟨E, dd, pp, lk, kk, none, K, block⟩ := ⟨_, rfl⟩
  have hcE : c.E = E := by rw [hc]
  have hcd : c.d = dd := by rw [hc]
  have hcp : c.p = pp := by rw [hc]
  have hck : c.k = kk := by rw [hc]
  have hcK : c.K = K := by rw [hc]
  have hcb : c.block = block := by rw [hc]
  rw [← hc] at hrV
  clear hc hp8 k8 kV8 hrm BF1V
  go_upto_region 9 with (fail)
  rw [← hV]
  clear hV
  subst hcE hcd hcp hck hcK hcb
  obtain ⟨s0, hs0⟩ : ∃ s0 : RSt, s0 = { D := mountD (c.block : Int) 1099511627776 (akFs (recsD d) (recsD e) c.block), S := PSt.new (64 * (c.K : Int)), next := 1 } := ⟨_, rfl⟩
  rw [← hs0] at hrV
  have HAP := Hid.intro_ (show AkG c d e s0 from by
    have hcalm : Calm s0.D c.block (akFs (recsD d) (recsD e) c.block) := by rw [hs0]; exact mount_calm _ _
    have h1 : s0.S.closed = false ∧ s0.S.hand = 0 ∧ s0.S.parts = 0 ∧ s0.S.limit = 64 * (c.K : Int) := by rw [hs0]; exact ⟨rfl, rfl, rfl, rfl⟩
    obtain ⟨q1, q2, q3, q4⟩ := h1
    exact ⟨⟨ak_f HD.out.1.rows.oks HL12.out.1, hcalm, HD.out.1, q1, q2, q3, by rw [q4]; omega, by omega⟩, ⟨ak_g HDe.out.1.rows.oks HL12.out.2, hcalm, HDe.out.1, q1, q2, q3, by rw [q4]; omega, by omega⟩, by rw [hs0]; exact mount_quiet _ _ _, HK.out, hK0, HL12.out.1, HL12.out.2⟩)
  have hr0 : s0.D.reads = 0 := by rw [hs0]; rfl
  have HON := Hid.intro_ (show AkOn c G s0 V 0 V by have := AkOn.start hrV; rw [hr0] at this; exact this)
  obtain ⟨Jn, hJn⟩ : ∃ Jn, Jn = nblk c.K (recsD d).length := ⟨_, rfl⟩
  have hbl1 : (blocksB 2 (recsD d) c.block).length = Jn := by rw [hJn, hrV.blocks_len]
  obtain ⟨Je, hJe⟩ : ∃ Je, Je = nblk c.K (recsD e).length := ⟨_, rfl⟩
  have hbl2 : (blocksB 2 (recsD e) c.block).length = Je := by rw [hJe, hrV.blocks_len]
  rw [hbl1] at f2
  have hsm := nblk_sm HAP.out
  rw [← hJn, ← hJe] at hsm
  have HJN := Hid.intro_ hJn
  have HJE := Hid.intro_ hJe
  have HBL2 := Hid.intro_ hbl2
  have HBL1 := Hid.intro_ hbl1
  have HGX := Hid.intro_ hG
  clear hs0 hr0 hrV hJn hJe hbl1 hbl2 hG
  have FIX := Hid.intro_ (show ∀ wr, Keep G V wr → Keep Nil X wr from fun wr kr => KXV.out.trans kr (fun z hz h => by have := HGX.out _ h; omega))
  go_wp2_with fail
  go_loopw [14, 16] (fun bf i wr => ∃ (k : Nat) (bv : Int), k ≤ n ∧ i = .int .i64 k ∧ bf = .int .i64 bv ∧ Hid (AkOn c G s0 V bv wr)) (fun _ i _ => n - (intOf i).toNat)
  case atStart => exact ⟨0, 0, Nat.zero_le _, rfl, rfl, HON⟩
  case round =>
    obtain ⟨k, bv, hkm, rfl, rfl, HA⟩ := hrel
    have HKN := Hid.intro_ (show ∀ W, Keep G V W → Keep Nil w W from fun W kr => KX.out.then_ (FIX.out W kr))
    have HBR := Hid.intro_ (show ∀ W, Keep G V W → Blk W w8.heap.size 35 #[.pointer (some ⟨c.d, 0, none⟩), .pointer (some ⟨c.p, 0, none⟩), .pointer (some ⟨c.k, 0, none⟩), .int .i64 c.block, .slice As 4 cs] from fun W kr => BR.out.keep kr HNR.out)
    have HBD := Hid.intro_ (show ∀ W, Keep G V W → Blk W w1.heap.size 86 #[.int .i64 d.v, .int .u64 d.r, .int .i64 d.m, .slice A3 d.P.length c3] from fun W kr => BD1.out.keep (FIX.out W kr) (fun h => h))
    by_cases hlt : k < n
    · obtain ⟨l, hlk⟩ : ∃ l, ls[k]? = some l := ⟨_, List.getElem?_eq_getElem (by have := HNN.out; omega)⟩
      obtain ⟨vs, hvs1, hvs2, hvs3, hvs4⟩ := HLL.out.out
      obtain ⟨vk, hvk, hbl⟩ := hvs4 k l hlk
      obtain ⟨Bk, ck, hve, hbr, hbs, hbl63⟩ := hbl.out
      subst hve
      have hlne : ls ≠ [] := fun e => by rw [e] at hlk; simp at hlk
      obtain ⟨⟨g, o, sp⟩, hAl, hcw⟩ := hvs2 k _ hvk
      obtain rfl : sp = none := (hvs3 hlne _ hAl).1
      rw [add_at] at hcw
      have HCW := Hid.intro_ (show ∀ W, Keep G V W → W.cell? ⟨g, o + k, none⟩ = some (.slice Bk l.length ck) from fun W kr => cell_keep hcw (HKN.out W kr) (fun h => h))
      have hki : (k : Int) < (n : Int) := by omega
      have hk0 : (0 : Int) ≤ (k : Int) := by omega
      have HBR2 := Hid.intro_ hbr
      have HBS := Hid.intro_ hbs
      have HLT := Hid.intro_ hlt
      have HAL := Hid.intro_ hAl
      subst hAl
      obtain ⟨ll, hll⟩ : ∃ ll, ll = l.length := ⟨_, rfl⟩
      have HLE := Hid.intro_ hll
      have HL63 := Hid.intro_ hbl63
      have hkeep := HA.out.keep
      have r0 : wr.cell? ⟨w8.heap.size, 0, none⟩ = some (.pointer (some ⟨c.d, 0, none⟩)) := (HBR.out wr hkeep).at_ 0
      have r2 : wr.cell? ⟨w8.heap.size, 2, none⟩ = some (.pointer (some ⟨c.k, 0, none⟩)) := (HBR.out wr hkeep).at_ 2
      have q0 := HCW.out wr hkeep
      rw [← hll] at q0
      rw [← hll] at HCW
      obtain ⟨rv, rn, HEV, HRES⟩ : ∃ rv rn, Hid (∀ W, AkOn c G s0 V bv W → Calls Tryz.prog 36 #[.pointer (some ⟨c.k, 0, none⟩), .string nmF, .slice Bk ll ck] W fun x w' => x = .returned (.tuple #[.bool rv, .int .i64 rn]) ∧ AkTo c G s0 V bv (Jn + 1) w') ∧ Hid ((ll = d.v → rv = d.eval l ∧ rn = 0) ∧ (¬ ll = d.v → rv = false ∧ rn = 1)) := by
        rw [hll, HJN.out]
        by_cases hv : l.length = d.v
        · refine ⟨d.eval l, 0, Hid.intro_ (fun W h => ?_), Hid.intro_ ⟨fun _ => ⟨rfl, rfl⟩, fun h => absurd hv h⟩⟩
          refine AkOn.eval_yes HAP.out h Bk l ck hv (hbr.keep (HKN.out W h.keep) (fun _ _ _ h => h)) (fun hne a ha => (hbs hne a ha).1) (fun hne a ha => ?_)
          have h1 := (hbs hne a ha).2
          have h2 := KX.out.size
          have h3 := KXV.out.size
          exact ⟨fun hf => by have := HGX.out _ hf; omega, by omega⟩
        · exact ⟨false, 1, Hid.intro_ (fun W h => AkOn.eval_no HAP.out h Bk l ck hv (by omega)), Hid.intro_ ⟨fun h => absurd h hv, fun _ => ⟨rfl, rfl⟩⟩⟩
      clear hlk hvs1 hvs2 hvs3 hvs4 hvk hbl hbr hbs hbl63 hlne hcw hlt hll hkeep
      go_wp2_with fail
      go_cut [17, 18] from 75 to 84 (fun v17 v18 wd => v17 = .bool rv ∧ v18 = .int .i64 rn ∧ Hid (AkTo c G s0 V bv (Jn + 1) wd))
      case first =>
        refine wp_region_held_drew (S := (fun w' => w'.cell? ⟨w8.heap.size, 2, none⟩ = some (.pointer (some ⟨c.k, 0, none⟩)) ∧ w'.cell? ⟨g, o + k, none⟩ = some (.slice Bk ll ck))) (by kernel_rfl) ?_ (fun hHeld => ?_)
        · exact ⟨r2, q0⟩
        refine wpAnyH_take (i := 0) (v := ?_) (by simp only [List.getElem?_toArray, List.getElem?_cons_zero]; rfl) (by kernel_rfl) (by kernel_rfl) (by kernel_rfl) (by intro _ _ _ h; exact h) (Or.inl ⟨by kernel_rfl, ?_⟩) (by assumption) ?_
        rotate_left
        · (intro w hSw; (try dsimp only at hSw); go_simp; try with_reducible rfl)
        try simp only [Act.put, List.setIfInBounds_toArray, List.set_cons_zero, List.set_cons_succ]
        refine wpAnyH_take (i := 1) (v := ?_) (by simp only [List.getElem?_toArray, List.getElem?_cons_succ, List.getElem?_cons_zero]; rfl) (by kernel_rfl) (by kernel_rfl) (by kernel_rfl) (by intro _ _ _ h; exact h) (Or.inl ⟨by kernel_rfl, ?_⟩) (by assumption) ?_
        rotate_left
        · (intro w hSw; (try dsimp only at hSw); go_simp; try with_reducible rfl)
        try simp only [Act.put, List.setIfInBounds_toArray, List.set_cons_zero, List.set_cons_succ]
        refine wpAnyH_take (i := 2) (v := ?_) (by simp only [List.getElem?_toArray, List.getElem?_cons_succ, List.getElem?_cons_zero]; rfl) (by kernel_rfl) (by kernel_rfl) (by kernel_rfl) (by intro _ _ _ h; exact h) (Or.inl ⟨by kernel_rfl, ?_⟩) (by assumption) ?_
        rotate_left
        · (intro w hSw; (try dsimp only at hSw); go_simp; try with_reducible rfl)
        try simp only [Act.put, List.setIfInBounds_toArray, List.set_cons_zero, List.set_cons_succ]
        refine wpAnyH_take (i := 3) (v := ?_) (by simp only [List.getElem?_toArray, List.getElem?_cons_succ, List.getElem?_cons_zero]; rfl) (by kernel_rfl) (by kernel_rfl) (by kernel_rfl) (by intro _ _ _ h; exact h) (Or.inl ⟨by kernel_rfl, ?_⟩) (by assumption) ?_
        rotate_left
        · (intro w hSw; (try dsimp only at hSw); go_simp; try with_reducible rfl)
        try simp only [Act.put, List.setIfInBounds_toArray, List.set_cons_zero, List.set_cons_succ]
        refine wpAnyH_take (i := 4) (v := ?_) (by simp only [List.getElem?_toArray, List.getElem?_cons_succ, List.getElem?_cons_zero]; rfl) (by kernel_rfl) (by kernel_rfl) (by kernel_rfl) (by intro _ _ _ h; exact h) (Or.inl ⟨by kernel_rfl, ?_⟩) (by assumption) ?_
        rotate_left
        · (intro w hSw; (try dsimp only at hSw); go_simp; try with_reducible rfl)
        try simp only [Act.put, List.setIfInBounds_toArray, List.set_cons_zero, List.set_cons_succ]
        refine wpAnyH_take (i := 5) (v := ?_) (by simp only [List.getElem?_toArray, List.getElem?_cons_succ, List.getElem?_cons_zero]; rfl) (by kernel_rfl) (by kernel_rfl) (by kernel_rfl) (by intro _ _ _ h; exact h) (Or.inl ⟨by kernel_rfl, ?_⟩) (by assumption) ?_
        rotate_left
        · (intro w hSw; (try dsimp only at hSw); go_simp; try with_reducible rfl)
        try simp only [Act.put, List.setIfInBounds_toArray, List.set_cons_zero, List.set_cons_succ]
        refine wpAnyH_ready (rs := [6]) (by kernel_rfl) (by simp) ?_
        refine AllReadyH.cons (by simp only [List.getElem?_toArray, List.getElem?_cons_succ, List.getElem?_cons_zero]; rfl) (fun K hK => ?_) AllReadyH.nil
        go_simp
        go_at_call 36
        refine (HEV.out _ (HA.out.nil ((Keep.refl Nil wr).drew))).mono ?_
        rintro x w9 ⟨rfl, ht⟩
        have HT := Hid.intro_ ht
        have KZ := Hid.intro_ ht.keep
        clear ht
        go_wp2_with fail
        refine hK.out _ _ ?_ (fun hHeld => ?_)
        · exact ⟨(HBR.out _ KZ.out).at_ 2, HCW.out _ KZ.out⟩
        clear hK K
        try simp only [Act.put, List.setIfInBounds_toArray, List.set_cons_zero, List.set_cons_succ]
        refine wpAnyH_take (i := 7) (v := ?_) (by simp only [List.getElem?_toArray, List.getElem?_cons_succ, List.getElem?_cons_zero]; rfl) (by kernel_rfl) (by kernel_rfl) (by kernel_rfl) (by intro _ _ _ h; exact h) (Or.inl ⟨by kernel_rfl, ?_⟩) (by assumption) ?_
        rotate_left
        · (intro w hSw; (try dsimp only at hSw); go_simp; try with_reducible rfl)
        try simp only [Act.put, List.setIfInBounds_toArray, List.set_cons_zero, List.set_cons_succ]
        refine wpAnyH_take (i := 8) (v := ?_) (by simp only [List.getElem?_toArray, List.getElem?_cons_succ, List.getElem?_cons_zero]; rfl) (by kernel_rfl) (by kernel_rfl) (by kernel_rfl) (by intro _ _ _ h; exact h) (Or.inl ⟨by kernel_rfl, ?_⟩) (by assumption) ?_
        rotate_left
        · (intro w hSw; (try dsimp only at hSw); go_simp; try with_reducible rfl)
        try simp only [Act.put, List.setIfInBounds_toArray, List.set_cons_zero, List.set_cons_succ]
        refine wpAnyH_take (i := 9) (v := ?_) (by simp only [List.getElem?_toArray, List.getElem?_cons_succ, List.getElem?_cons_zero]; rfl) (by kernel_rfl) (by kernel_rfl) (by kernel_rfl) (by intro _ _ _ h; exact h) (Or.inl ⟨by kernel_rfl, ?_⟩) (by assumption) ?_
        rotate_left
        · (intro w hSw; (try dsimp only at hSw); go_simp; try with_reducible rfl)
        try simp only [Act.put, List.setIfInBounds_toArray, List.set_cons_zero, List.set_cons_succ]
        refine wpAnyH_take (i := 10) (v := ?_) (by simp only [List.getElem?_toArray, List.getElem?_cons_succ, List.getElem?_cons_zero]; rfl) (by kernel_rfl) (by kernel_rfl) (by kernel_rfl) (by intro _ _ _ h; exact h) (Or.inl ⟨by kernel_rfl, ?_⟩) (by assumption) ?_
        rotate_left
        · (intro w hSw; (try dsimp only at hSw); go_simp; try with_reducible rfl)
        try simp only [Act.put, List.setIfInBounds_toArray, List.set_cons_zero, List.set_cons_succ]
        refine wpAnyH_take (i := 11) (v := ?_) (by simp only [List.getElem?_toArray, List.getElem?_cons_succ, List.getElem?_cons_zero]; rfl) (by kernel_rfl) (by kernel_rfl) (by kernel_rfl) (by intro _ _ _ h; exact h) (Or.inl ⟨by kernel_rfl, ?_⟩) (by assumption) ?_
        rotate_left
        · (intro w hSw; (try dsimp only at hSw); go_simp; try with_reducible rfl)
        try simp only [Act.put, List.setIfInBounds_toArray, List.set_cons_zero, List.set_cons_succ]
        refine wpAnyH_done (by kernel_rfl) ?_ _
        go_wp2_with fail
        go_meet
        exact ⟨rfl, rfl, HT⟩
      case rest =>
        obtain ⟨rfl, rfl, HT⟩ := hcut
        obtain ⟨wz, rfl⟩ : ∃ wz : World, wz = wc := ⟨_, rfl⟩
        obtain ⟨nb, hnb, hdx⟩ := HT.out.out
        have r0z : wz.cell? ⟨w8.heap.size, 0, none⟩ = some (.pointer (some ⟨c.d, 0, none⟩)) := (HBR.out wz hnb.keep).at_ 0
        have HCO := Hid.intro_ (AkOn.counts hnb)
        have HDX := Hid.intro_ hdx
        clear hnb hdx r0 r2 q0
        have hfld := fld_counts
        go_upto_region 18 with (go_at_call 37; refine HCO.out.mono ?_; rintro x wk ⟨u0, u2, u3, u4, u5, u6, rfl, hak⟩
                                have HAK := Hid.intro_ hak
                                have q1 := HCW.out wk hak.keep
                                have bd := HBD.out wk hak.keep
                                have d0 : wk.cell? ⟨w1.heap.size, 0, none⟩ = some (.int .i64 d.v) := bd.at_ 0
                                have d1 : wk.cell? ⟨w1.heap.size, 1, none⟩ = some (.int .u64 d.r) := bd.at_ 1
                                have d2 : wk.cell? ⟨w1.heap.size, 2, none⟩ = some (.int .i64 d.m) := bd.at_ 2
                                have d3 : wk.cell? ⟨w1.heap.size, 3, none⟩ = some (.slice A3 d.P.length c3) := bd.at_ 3
                                clear hak bd)
        by_cases hv : ll = d.v
        · obtain ⟨e1, e2⟩ := HRES.out.1 hv
          subst e2
          have qv : ((ll : Int) != (d.v : Int)) = false := by rw [hv]; simp
          obtain ⟨an, han⟩ : ∃ an, an = d.eval l := ⟨_, rfl⟩
          rw [← han] at e1
          subst e1
          have HRE := Hid.intro_ (show ∀ W, Keep G V W → Calls Tryz.prog 38 #[.agg #[.int .i64 d.v, .int .u64 d.r, .int .i64 d.m, .slice A3 d.P.length c3], .slice Bk ll ck] W fun x w' => x = .returned (.bool rv) ∧ Keep Nil W w' from fun W kr => by
            have hk2 := HKN.out W kr
            have h := reval_any d A3 Bk c3 ck l W HD.out.1 (HD1.out.nil (FIX.out W kr)) (by rw [← HLE.out]; exact hv) (HBR2.out.keep hk2 (fun _ _ _ h => h)) (fun hne a ha => (HBS.out hne a ha).1)
            rw [← HLE.out, ← han] at h
            exact h)
          clear hv han
          go_cut [97] from 89 to 97 (fun v97 wd => v97 = .bool false ∧ Keep Nil wk wd)
          case first =>
            go_quiet (fail)
            go_wp2_with fail
            go_meet
            exact ⟨rfl, (Keep.refl Nil wk).drewN _⟩
          case rest =>
            obtain ⟨rfl, kX⟩ := hcut
            have HAN := Hid.intro_ (HAK.out.nil kX)
            obtain ⟨wy, rfl⟩ : ∃ wy : World, wy = wc := ⟨_, rfl⟩
            have d0' := cell_keep d0 kX (fun h => h)
            have d1' := cell_keep d1 kX (fun h => h)
            have d2' := cell_keep d2 kX (fun h => h)
            have d3' := cell_keep d3 kX (fun h => h)
            have q1' := cell_keep q1 kX (fun h => h)
            clear kX d0 d1 d2 d3 q1
            obtain ⟨dx, hdx⟩ : ∃ dx, dx = wrap64 (nb - bv) := ⟨_, rfl⟩
            have x2 : wrap64 (nb - bv) = dx := hdx.symm
            have HX3 := Hid.intro_ (show ¬ (Jn : Int) + 1 < dx by have := HDX.out; rw [← hdx] at this; omega)
            have qb : (rv != rv) = false := by simp
            clear hdx
            go_wp2_with fail
            go_cut [121] from 103 to 121 (fun v121 wd => v121 = .bool false ∧ Keep Nil wy wd)
            case first =>
              refine wp_region_held_drew (S := (fun w' => w'.cell? ⟨w1.heap.size, 0, none⟩ = some (.int .i64 d.v) ∧ w'.cell? ⟨w1.heap.size, 1, none⟩ = some (.int .u64 d.r) ∧ w'.cell? ⟨w1.heap.size, 2, none⟩ = some (.int .i64 d.m) ∧ w'.cell? ⟨w1.heap.size, 3, none⟩ = some (.slice A3 d.P.length c3) ∧ w'.cell? ⟨g, o + k, none⟩ = some (.slice Bk ll ck))) (by kernel_rfl) ?_ (fun hHeld => ?_)
              · exact ⟨d0', d1', d2', d3', q1'⟩
              refine wpAnyH_take (i := 0) (v := ?_) (by simp only [List.getElem?_toArray, List.getElem?_cons_zero]; rfl) (by kernel_rfl) (by kernel_rfl) (by kernel_rfl) (by intro _ _ _ h; exact h) (Or.inl ⟨by kernel_rfl, ?_⟩) (by assumption) ?_
              rotate_left
              · (intro w hSw; (try dsimp only at hSw); go_simp; try with_reducible rfl)
              try simp only [Act.put, List.setIfInBounds_toArray, List.set_cons_zero, List.set_cons_succ]
              refine wpAnyH_take (i := 1) (v := ?_) (by simp only [List.getElem?_toArray, List.getElem?_cons_succ, List.getElem?_cons_zero]; rfl) (by kernel_rfl) (by kernel_rfl) (by kernel_rfl) (by intro _ _ _ h; exact h) (Or.inl ⟨by kernel_rfl, ?_⟩) (by assumption) ?_
              rotate_left
              · (intro w hSw; (try dsimp only at hSw); go_simp; try with_reducible rfl)
              try simp only [Act.put, List.setIfInBounds_toArray, List.set_cons_zero, List.set_cons_succ]
              refine wpAnyH_take (i := 2) (v := ?_) (by simp only [List.getElem?_toArray, List.getElem?_cons_succ, List.getElem?_cons_zero]; rfl) (by kernel_rfl) (by kernel_rfl) (by kernel_rfl) (by intro _ _ _ h; exact h) (Or.inl ⟨by kernel_rfl, ?_⟩) (by assumption) ?_
              rotate_left
              · (intro w hSw; (try dsimp only at hSw); go_simp; try with_reducible rfl)
              try simp only [Act.put, List.setIfInBounds_toArray, List.set_cons_zero, List.set_cons_succ]
              refine wpAnyH_take (i := 3) (v := ?_) (by simp only [List.getElem?_toArray, List.getElem?_cons_succ, List.getElem?_cons_zero]; rfl) (by kernel_rfl) (by kernel_rfl) (by kernel_rfl) (by intro _ _ _ h; exact h) (Or.inl ⟨by kernel_rfl, ?_⟩) (by assumption) ?_
              rotate_left
              · (intro w hSw; (try dsimp only at hSw); go_simp; try with_reducible rfl)
              try simp only [Act.put, List.setIfInBounds_toArray, List.set_cons_zero, List.set_cons_succ]
              refine wpAnyH_take (i := 4) (v := ?_) (by simp only [List.getElem?_toArray, List.getElem?_cons_succ, List.getElem?_cons_zero]; rfl) (by kernel_rfl) (by kernel_rfl) (by kernel_rfl) (by intro _ _ _ h; exact h) (Or.inl ⟨by kernel_rfl, ?_⟩) (by assumption) ?_
              rotate_left
              · (intro w hSw; (try dsimp only at hSw); go_simp; try with_reducible rfl)
              try simp only [Act.put, List.setIfInBounds_toArray, List.set_cons_zero, List.set_cons_succ]
              refine wpAnyH_take (i := 5) (v := ?_) (by simp only [List.getElem?_toArray, List.getElem?_cons_succ, List.getElem?_cons_zero]; rfl) (by kernel_rfl) (by kernel_rfl) (by kernel_rfl) (by intro _ _ _ h; exact h) (Or.inl ⟨by kernel_rfl, ?_⟩) (by assumption) ?_
              rotate_left
              · (intro w hSw; (try dsimp only at hSw); go_simp; try with_reducible rfl)
              try simp only [Act.put, List.setIfInBounds_toArray, List.set_cons_zero, List.set_cons_succ]
              refine wpAnyH_take (i := 6) (v := ?_) (by simp only [List.getElem?_toArray, List.getElem?_cons_succ, List.getElem?_cons_zero]; rfl) (by kernel_rfl) (by kernel_rfl) (by kernel_rfl) (by intro _ _ _ h; exact h) (Or.inl ⟨by kernel_rfl, ?_⟩) (by assumption) ?_
              rotate_left
              · (intro w hSw; (try dsimp only at hSw); go_simp; try with_reducible rfl)
              try simp only [Act.put, List.setIfInBounds_toArray, List.set_cons_zero, List.set_cons_succ]
              refine wpAnyH_take (i := 7) (v := ?_) (by simp only [List.getElem?_toArray, List.getElem?_cons_succ, List.getElem?_cons_zero]; rfl) (by kernel_rfl) (by kernel_rfl) (by kernel_rfl) (by intro _ _ _ h; exact h) (Or.inl ⟨by kernel_rfl, ?_⟩) (by assumption) ?_
              rotate_left
              · (intro w hSw; (try dsimp only at hSw); go_simp; try with_reducible rfl)
              try simp only [Act.put, List.setIfInBounds_toArray, List.set_cons_zero, List.set_cons_succ]
              refine wpAnyH_take (i := 8) (v := ?_) (by simp only [List.getElem?_toArray, List.getElem?_cons_succ, List.getElem?_cons_zero]; rfl) (by kernel_rfl) (by kernel_rfl) (by kernel_rfl) (by intro _ _ _ h; exact h) (Or.inl ⟨by kernel_rfl, ?_⟩) (by assumption) ?_
              rotate_left
              · (intro w hSw; (try dsimp only at hSw); go_simp; try with_reducible rfl)
              try simp only [Act.put, List.setIfInBounds_toArray, List.set_cons_zero, List.set_cons_succ]
              refine wpAnyH_ready (rs := [9]) (by kernel_rfl) (by simp) ?_
              refine AllReadyH.cons (by simp only [List.getElem?_toArray, List.getElem?_cons_succ, List.getElem?_cons_zero]; rfl) (fun K hK => ?_) AllReadyH.nil
              go_simp
              go_at_call 38
              refine (HRE.out _ (HAN.out.keep.trans ((Keep.refl Nil wy).drew) (fun _ _ h => h.elim))).mono ?_
              rintro x w9 ⟨rfl, hk9⟩
              have kz := (Keep.refl Nil wy).drew.then_ hk9
              have KZ := Hid.intro_ kz
              go_wp2_with fail
              refine hK.out _ _ ?_ (fun hHeld => ?_)
              · exact ⟨cell_keep d0' kz (fun h => h), cell_keep d1' kz (fun h => h), cell_keep d2' kz (fun h => h), cell_keep d3' kz (fun h => h), cell_keep q1' kz (fun h => h)⟩
              clear hK K
              try simp only [Act.put, List.setIfInBounds_toArray, List.set_cons_zero, List.set_cons_succ]
              refine wpAnyH_take (i := 10) (v := ?_) (by simp only [List.getElem?_toArray, List.getElem?_cons_succ, List.getElem?_cons_zero]; rfl) (by kernel_rfl) (by kernel_rfl) (by kernel_rfl) (by intro _ _ _ h; exact h) (Or.inl ⟨by kernel_rfl, ?_⟩) (by assumption) ?_
              rotate_left
              · (intro w hSw; (try dsimp only at hSw); go_simp; try with_reducible rfl)
              try simp only [Act.put, List.setIfInBounds_toArray, List.set_cons_zero, List.set_cons_succ]
              refine wpAnyH_take (i := 11) (v := ?_) (by simp only [List.getElem?_toArray, List.getElem?_cons_succ, List.getElem?_cons_zero]; rfl) (by kernel_rfl) (by kernel_rfl) (by kernel_rfl) (by intro _ _ _ h; exact h) (Or.inl ⟨by kernel_rfl, ?_⟩) (by assumption) ?_
              rotate_left
              · (intro w hSw; (try dsimp only at hSw); go_simp; try with_reducible rfl)
              try simp only [Act.put, List.setIfInBounds_toArray, List.set_cons_zero, List.set_cons_succ]
              refine wpAnyH_take (i := 12) (v := ?_) (by simp only [List.getElem?_toArray, List.getElem?_cons_succ, List.getElem?_cons_zero]; rfl) (by kernel_rfl) (by kernel_rfl) (by kernel_rfl) (by intro _ _ _ h; exact h) (Or.inl ⟨by kernel_rfl, ?_⟩) (by assumption) ?_
              rotate_left
              · (intro w hSw; (try dsimp only at hSw); go_simp; try with_reducible rfl)
              try simp only [Act.put, List.setIfInBounds_toArray, List.set_cons_zero, List.set_cons_succ]
              refine wpAnyH_take (i := 13) (v := ?_) (by simp only [List.getElem?_toArray, List.getElem?_cons_succ, List.getElem?_cons_zero]; rfl) (by kernel_rfl) (by kernel_rfl) (by kernel_rfl) (by intro _ _ _ h; exact h) (Or.inl ⟨by kernel_rfl, ?_⟩) (by assumption) ?_
              rotate_left
              · (intro w hSw; (try dsimp only at hSw); go_simp; try with_reducible rfl)
              try simp only [Act.put, List.setIfInBounds_toArray, List.set_cons_zero, List.set_cons_succ]
              refine wpAnyH_take (i := 14) (v := ?_) (by simp only [List.getElem?_toArray, List.getElem?_cons_succ, List.getElem?_cons_zero]; rfl) (by kernel_rfl) (by kernel_rfl) (by kernel_rfl) (by intro _ _ _ h; exact h) (Or.inl ⟨by kernel_rfl, ?_⟩) (by assumption) ?_
              rotate_left
              · (intro w hSw; (try dsimp only at hSw); go_simp; try with_reducible rfl)
              try simp only [Act.put, List.setIfInBounds_toArray, List.set_cons_zero, List.set_cons_succ]
              refine wpAnyH_take (i := 15) (v := ?_) (by simp only [List.getElem?_toArray, List.getElem?_cons_succ, List.getElem?_cons_zero]; rfl) (by kernel_rfl) (by kernel_rfl) (by kernel_rfl) (by intro _ _ _ h; exact h) (Or.inl ⟨by kernel_rfl, ?_⟩) (by assumption) ?_
              rotate_left
              · (intro w hSw; (try dsimp only at hSw); go_simp; try with_reducible rfl)
              try simp only [Act.put, List.setIfInBounds_toArray, List.set_cons_zero, List.set_cons_succ]
              refine wpAnyH_take (i := 16) (v := ?_) (by simp only [List.getElem?_toArray, List.getElem?_cons_succ, List.getElem?_cons_zero]; rfl) (by kernel_rfl) (by kernel_rfl) (by kernel_rfl) (by intro _ _ _ h; exact h) (Or.inl ⟨by kernel_rfl, ?_⟩) (by assumption) ?_
              rotate_left
              · (intro w hSw; (try dsimp only at hSw); go_simp; try with_reducible rfl)
              try simp only [Act.put, List.setIfInBounds_toArray, List.set_cons_zero, List.set_cons_succ]
              refine wpAnyH_take (i := 17) (v := ?_) (by simp only [List.getElem?_toArray, List.getElem?_cons_succ, List.getElem?_cons_zero]; rfl) (by kernel_rfl) (by kernel_rfl) (by kernel_rfl) (by intro _ _ _ h; exact h) (Or.inl ⟨by kernel_rfl, ?_⟩) (by assumption) ?_
              rotate_left
              · (intro w hSw; (try dsimp only at hSw); go_simp; try with_reducible rfl)
              try simp only [Act.put, List.setIfInBounds_toArray, List.set_cons_zero, List.set_cons_succ]
              refine wpAnyH_take (i := 18) (v := ?_) (by simp only [List.getElem?_toArray, List.getElem?_cons_succ, List.getElem?_cons_zero]; rfl) (by kernel_rfl) (by kernel_rfl) (by kernel_rfl) (by intro _ _ _ h; exact h) (Or.inl ⟨by kernel_rfl, ?_⟩) (by assumption) ?_
              rotate_left
              · (intro w hSw; (try dsimp only at hSw); go_simp; try with_reducible rfl)
              try simp only [Act.put, List.setIfInBounds_toArray, List.set_cons_zero, List.set_cons_succ]
              refine wpAnyH_done (by kernel_rfl) ?_ _
              go_wp2_with fail
              go_meet
              refine ⟨?_, KZ.out⟩
              have h3 := HX3.out
              have x3 : IntKind.i64.wrap (nb - bv) = dx := (i64_wrap _).trans x2
              rw [x3, decide_eq_false (by omega)]
            case rest =>
              obtain ⟨rfl, kY⟩ := hcut
              have HAM := Hid.intro_ (HAN.out.nil kY)
              clear kY d0' d1' d2' d3' q1' x2 qb
              go_wp2_with fail
              go_roundw
              case rel => exact ⟨k + 1, nb, by have := HLT.out; omega, by go_num, rfl, HAM⟩
              case measure => have := HLT.out; simp [intOf]; omega
        · obtain ⟨e1, e2⟩ := HRES.out.2 hv
          subst e1 e2
          have qv : ((ll : Int) != (d.v : Int)) = true := by
            have : ¬ (ll : Int) = (d.v : Int) := by omega
            simpa using this
          clear hv
          go_cut [97] from 89 to 97 (fun v97 wd => v97 = .bool true ∧ Keep Nil wk wd)
          case first =>
            go_quiet (fail)
            go_wp2_with fail
            go_meet
            exact ⟨rfl, (Keep.refl Nil wk).drewN _⟩
          case rest =>
            obtain ⟨rfl, kX⟩ := hcut
            have HAN := Hid.intro_ (HAK.out.nil kX)
            clear kX d0 d1 d2 d3 q1
            go_wp2_with fail
            go_roundw
            case rel => exact ⟨k + 1, nb, by have := HLT.out; omega, by go_num, rfl, HAN⟩
            case measure => have := HLT.out; simp [intOf]; omega
    · obtain rfl : k = n := by omega
      have hkeep := HA.out.keep
      have HWD := Hid.intro_ (AkOn.width HAP.out HA.out)
      have r2 : wr.cell? ⟨w8.heap.size, 2, none⟩ = some (.pointer (some ⟨c.k, 0, none⟩)) := (HBR.out wr hkeep).at_ 2
      rw [← HJN.out] at HWD
      obtain ⟨wi, hwi⟩ : ∃ wi, wi = d.width := ⟨_, rfl⟩
      rw [← hwi] at HWD
      have HWI := Hid.intro_ hwi
      have hfld := fld_counts
      clear hkeep hlt hwi
      go_upto_region 25 with (go_at_call 39; refine HWD.out.mono ?_; rintro x wa ⟨rfl, hta⟩
                              have HTA := Hid.intro_ hta
                              clear hta)
      obtain ⟨nb, hnb, hdx⟩ := HTA.out.out
      have r0z : wa.cell? ⟨w8.heap.size, 0, none⟩ = some (.pointer (some ⟨c.d, 0, none⟩)) := (HBR.out wa hnb.keep).at_ 0
      have HCO := Hid.intro_ (AkOn.counts hnb)
      obtain ⟨dx, hdxe⟩ : ∃ dx, dx = wrap64 (nb - bv) := ⟨_, rfl⟩
      have x2 : wrap64 (nb - bv) = dx := hdxe.symm
      have x3 : ¬ (Jn : Int) + 1 < dx := by rw [← hdxe] at hdx; omega
      clear hnb hdx hdxe r2
      go_upto_region 26 with (go_at_call 37; refine HCO.out.mono ?_; rintro x wk ⟨u0, u2, u3, u4, u5, u6, rfl, hak⟩
                              have HAK := Hid.intro_ hak
                              clear hak)
      have HWR := Hid.intro_ (show ∀ W, Keep G V W → Calls Tryz.prog 40 #[.agg #[.int .i64 d.v, .int .u64 d.r, .int .i64 d.m, .slice A3 d.P.length c3]] W fun x w' => x = .returned (.int .i64 wi) ∧ Keep Nil W w' from fun W kr => by
        have h := width_any d A3 c3 W HD.out.1.rows (HD1.out.nil (FIX.out W kr))
        rw [← HWI.out] at h
        exact h)
      have HKP := Hid.intro_ (show ∀ (W : World) (q : Int), AkOn c G s0 V q W → Calls Tryz.prog 14 #[.agg #[.pointer (some ⟨c.d, 0, none⟩), .pointer (some ⟨c.p, 0, none⟩), .pointer (some ⟨c.k, 0, none⟩), .int .i64 c.block, .slice As 4 cs]] W fun x w' => x = .returned (.bool true) ∧ AkOn c G s0 V q w' from fun W q h => AkOn.kept HAP.out h (HSTX.out.nil (FIX.out W h.keep)))
      have HRC := Hid.intro_ (show ∀ W, Keep G V W → W.cell? ⟨w8.heap.size, 0, none⟩ = some (.pointer (some ⟨c.d, 0, none⟩)) ∧ W.cell? ⟨w8.heap.size, 1, none⟩ = some (.pointer (some ⟨c.p, 0, none⟩)) ∧ W.cell? ⟨w8.heap.size, 2, none⟩ = some (.pointer (some ⟨c.k, 0, none⟩)) ∧ W.cell? ⟨w8.heap.size, 3, none⟩ = some (.int .i64 c.block) ∧ W.cell? ⟨w8.heap.size, 4, none⟩ = some (.slice As 4 cs) from fun W kr => by
        have b := HBR.out W kr
        exact ⟨b.at_ 0, b.at_ 1, b.at_ 2, b.at_ 3, b.at_ 4⟩)
      have HDC := Hid.intro_ (show ∀ W, Keep G V W → W.cell? ⟨w1.heap.size, 0, none⟩ = some (.int .i64 d.v) ∧ W.cell? ⟨w1.heap.size, 1, none⟩ = some (.int .u64 d.r) ∧ W.cell? ⟨w1.heap.size, 2, none⟩ = some (.int .i64 d.m) ∧ W.cell? ⟨w1.heap.size, 3, none⟩ = some (.slice A3 d.P.length c3) from fun W kr => by
        have b := HBD.out W kr
        exact ⟨b.at_ 0, b.at_ 1, b.at_ 2, b.at_ 3⟩)
      have HEC := Hid.intro_ (show ∀ W, Keep G V W → W.cell? ⟨w2.heap.size, 0, none⟩ = some (.int .i64 e.v) ∧ W.cell? ⟨w2.heap.size, 1, none⟩ = some (.int .u64 e.r) ∧ W.cell? ⟨w2.heap.size, 2, none⟩ = some (.int .i64 e.m) ∧ W.cell? ⟨w2.heap.size, 3, none⟩ = some (.slice A4 e.P.length c4) from fun W kr => by
        have b := BD2.out.keep (FIX.out W kr) (fun h => h)
        exact ⟨b.at_ 0, b.at_ 1, b.at_ 2, b.at_ 3⟩)
      have HFC := Hid.intro_ (show ∀ W, Keep G V W → W.cell? ⟨w6.heap.size, 2, none⟩ = some (.slice Bv Je cv2) from fun W kr => by
        have b := BF2.out.keep (FIX.out W kr) (fun h => h)
        rw [← HBL2.out]
        exact b.at_ 2)
      obtain ⟨d0, d1, d2, d3⟩ := HDC.out wk HAK.out.keep
      clear r0z
      go_upto_region 28 with (first
        | (go_at_call 40; refine (HWR.out wk HAK.out.keep).mono ?_; rintro x wl ⟨rfl, kl⟩
           have HAL := Hid.intro_ (HAK.out.nil kl)
           obtain ⟨r0, r1, r2, r3, r4⟩ := HRC.out wl HAL.out.keep
           clear kl)
        | (go_at_call 14; refine (HKP.out wl nb HAL.out).mono ?_; rintro x wm ⟨rfl, hm9⟩
           have HAM := Hid.intro_ hm9
           have m2 := (HRC.out wm hm9.keep).2.2.1
           clear hm9))
      have HEQ := Hid.intro_ (AkOn.equal HAP.out HAM.out)
      rw [← HJN.out, ← HJE.out] at HEQ
      go_wp2_with fail
      refine HEQ.out.mono ?_
      rintro x we hpe
      obtain ⟨bo, en, rfl, hne, heq, hto⟩ := hpe.out
      obtain ⟨nb2, hnb2, hdx2⟩ := hto.out
      have s0z := (HRC.out we hnb2.keep).1
      have HCO2 := Hid.intro_ (AkOn.counts hnb2)
      have HDX2 := Hid.intro_ hdx2
      have HNE := Hid.intro_ hne
      have HEE := Hid.intro_ heq
      clear hpe hne heq hto hnb2 hdx2 d0 d1 d2 d3 m2
      go_upto_region 30 with (go_at_call 37; refine HCO2.out.mono ?_; rintro x wq ⟨t0, t2, t3, t4, t5, t6, rfl, haq⟩
                              have HAQ := Hid.intro_ haq
                              clear haq)
      have HKEEP := HKN
      obtain ⟨d0, d1, d2, d3⟩ := HDC.out wq HAQ.out.keep
      obtain ⟨e0, e1, e2, e3⟩ := HEC.out wq HAQ.out.keep
      by_cases hvv : d.v = e.v
      · have qv : ((d.v : Int) != (e.v : Int)) = false := by rw [hvv]; simp
        obtain ⟨hen, hbo⟩ := HEE.out hvv
        subst hen
        have HBO := Hid.intro_ hbo
        have m2 := (HRC.out wq HAQ.out.keep).2.2.1
        have HSF := Hid.intro_ (AkOn.self HAP.out HAQ.out)
        have HSM := Hid.intro_ (show ∀ W, Keep G V W → Calls Tryz.prog 42 #[.agg #[.int .i64 d.v, .int .u64 d.r, .int .i64 d.m, .slice A3 d.P.length c3], .agg #[.int .i64 e.v, .int .u64 e.r, .int .i64 e.m, .slice A4 e.P.length c4]] W fun x w' => x = .returned (.bool bo) ∧ Keep Nil W w' from fun W kr =>
          (same_any d e A3 A4 c3 c4 W HD.out.1.rows HDe.out.1.rows (HD1.out.nil (FIX.out W kr)) (HD2.out.nil (FIX.out W kr))).mono fun x w' hp => by
            obtain ⟨b2, hx, hiff, kk2⟩ := hp.out
            have : b2 = bo := Bool.eq_iff_iff.2 (hiff.trans HBO.out.symm)
            rw [hx, this]
            exact ⟨rfl, kk2⟩)
        have HQT := Hid.intro_ (show ∀ (W : World) (q : Int), AkOn c G s0 V q W → Calls Tryz.prog 32 #[.agg #[.pointer (some ⟨c.d, 0, none⟩), .pointer (some ⟨c.p, 0, none⟩), .pointer (some ⟨c.k, 0, none⟩), .int .i64 c.block, .slice As 4 cs]] W fun x w' => x = .returned (.bool true) ∧ Keep Nil W w' from fun W q h => AkOn.quiet HAP.out h)
        obtain ⟨dz, hdz⟩ : ∃ dz, dz = wrap64 (nb2 - nb) := ⟨_, rfl⟩
        have y2 : wrap64 (nb2 - nb) = dz := hdz.symm
        have y3 : dz ≤ (Jn : Int) + 1 + Je + 1 := wr4 Jn Je dz (by have := HDX2.out; rw [← hdz] at this; exact this)
        obtain ⟨X, S1, S2, hX, y4, y5, y6⟩ : ∃ X S1 S2 : Int, X = (Jn : Int) + 1 ∧ wrap64 (X + (Je : Int)) = S1 ∧ wrap64 (S1 + 1) = S2 ∧ decide (dz ≤ S2) = true := ⟨_, _, _, rfl, (wr3 Jn Je hsm.1 hsm.2).1, (wr3 Jn Je hsm.1 hsm.2).2, decide_eq_true y3⟩
        rw [← hX]
        clear hX y3
        clear hvv hbo hdz
        go_upto_region 32 with (fail)
        go_cut [25, 26] from 27 to 221 (fun v25 v26 wd => v25 = .bool true ∧ v26 = .int .i64 0 ∧ Hid (AkTo c G s0 V nb2 (nblk c.K (recsD d).length + nblk c.K (recsD d).length + 2) wd))
        case first =>
          go_wp2_with (go_at_call 41; refine HSF.out.mono ?_; rintro x ws ⟨rfl, hts⟩
                       have HTS := Hid.intro_ hts
                       clear hts)
          go_meet
          exact ⟨rfl, rfl, HTS⟩
        case rest =>
          obtain ⟨rfl, rfl, HTS⟩ := hcut
          obtain ⟨ws, rfl⟩ : ∃ ws : World, ws = wc := ⟨_, rfl⟩
          obtain ⟨nb3, hnb3, _⟩ := HTS.out.out
          have HAS := Hid.intro_ hnb3
          obtain ⟨d0', d1', d2', d3'⟩ := HDC.out ws hnb3.keep
          obtain ⟨e0', e1', e2', e3'⟩ := HEC.out ws hnb3.keep
          clear hnb3 d0 d1 d2 d3 e0 e1 e2 e3 m2
          clear HBO HEE HNE
          go_wp2_with (first
            | (go_at_call 42; refine (HSM.out ws HAS.out.keep).mono ?_; rintro x wt ⟨rfl, kt⟩
               have HAT := Hid.intro_ (HAS.out.nil kt)
               have g2 := HFC.out wt HAT.out.keep
               obtain ⟨r0, r1, r2, r3, r4⟩ := HRC.out wt HAT.out.keep
               clear kt)
            | (go_at_call 14; refine (HKP.out wt nb3 HAT.out).mono ?_; rintro x wu ⟨rfl, hm9⟩
               have HAU := Hid.intro_ hm9
               obtain ⟨s0', s1', s2', s3', s4'⟩ := HRC.out wu hm9.keep
               clear hm9)
            | (go_at_call 32; refine (HQT.out wu nb3 HAU.out).mono ?_; rintro x wv ⟨rfl, kv9⟩
               have HKV := Hid.intro_ kv9
               clear kv9))
          refine bodyPost_ret (v := .bool true) (by simp [results, Tryz.results5, go_sem]) rfl ⟨rfl, ?_⟩
          exact (HKEEP.out _ HAU.out.keep).then_ HKV.out
      · have qv : ((d.v : Int) != (e.v : Int)) = true := by
          have : ¬ (d.v : Int) = (e.v : Int) := by omega
          simpa using this
        obtain ⟨hb9, hn9⟩ := HNE.out hvv
        subst hb9 hn9
        obtain ⟨r0, r1, r2, r3, r4⟩ := HRC.out wq HAQ.out.keep
        have HKQ := Hid.intro_ (HKP.out wq nb2 HAQ.out)
        clear hvv
        go_wp2_with (go_at_call 14; refine HKQ.out.mono ?_; rintro x wm ⟨rfl, hm9⟩
                     have HAM9 := Hid.intro_ hm9
                     clear hm9)
        refine bodyPost_ret (v := .bool true) (by simp [results, Tryz.results5, go_sem]) rfl ⟨rfl, ?_⟩
        exact HKEEP.out _ HAM9.out.keep
end Go.Proofs.YtadipinnbehhhaaGreatDoor
namespace Go.Proofs.YtadipinnbehhhaaGreatDoor
open Go.RowKit

set_option maxRecDepth 100000 in
set_option maxHeartbeats 1000000 in
theorem asks_huge1 (w : World) (b : Int) (A : Option Addr) (n cap n2 cap2 : Nat) (A2 : Option Addr) (b2 : Int) (scr : Value) (hn : 268435456 < n) :
    Calls Tryz.prog 5 #[.agg #[.slice A n cap, .int .i64 b], .agg #[.slice A2 n2 cap2, .int .i64 b2], scr] w fun e w' => e = .returned (.bool true) ∧ Keep Nil w w' := by
  have hhu : ∀ W, Calls Tryz.prog 8 #[.int .i64 n] W fun e w' => e = .returned (.bool true) ∧ w' = W := fun W => by
    have := huge_any n W
    rw [decide_eq_true (by omega)] at this
    exact this
  have k0 := Hid.intro_ (((Keep.refl Nil w).alloc (.cells #[.slice A n cap, .int .i64 b] 67)).alloc (.cells #[.slice A2 n2 cap2, .int .i64 b2] 67))
  go_enter Tryz.func5, Tryz.ntmps5
  go_wp2_with (go_at_call 8; refine (hhu _).mono ?_; rintro e w' ⟨rfl, rfl⟩)
  refine bodyPost_ret (v := .bool true) (by simp [results, Tryz.results5, go_sem]) rfl ⟨rfl, ?_⟩
  exact k0.out
set_option maxRecDepth 100000 in
set_option maxHeartbeats 1000000 in
theorem asks_huge2 (w : World) (b : Int) (A : Option Addr) (n cap n2 cap2 : Nat) (A2 : Option Addr) (b2 : Int) (scr : Value) (hn : ¬ 268435456 < n) (hn2 : 268435456 < n2) :
    Calls Tryz.prog 5 #[.agg #[.slice A n cap, .int .i64 b], .agg #[.slice A2 n2 cap2, .int .i64 b2], scr] w fun e w' => e = .returned (.bool true) ∧ Keep Nil w w' := by
  have hhu : ∀ W, Calls Tryz.prog 8 #[.int .i64 n] W fun e w' => e = .returned (.bool false) ∧ w' = W := fun W => by
    have := huge_any n W
    rw [decide_eq_false (by omega)] at this
    exact this
  have hhu2 : ∀ W, Calls Tryz.prog 8 #[.int .i64 n2] W fun e w' => e = .returned (.bool true) ∧ w' = W := fun W => by
    have := huge_any n2 W
    rw [decide_eq_true (by omega)] at this
    exact this
  obtain ⟨W, hW⟩ : ∃ W, W = (w.alloc (.cells #[.slice A n cap, .int .i64 b] 67)).alloc (.cells #[.slice A2 n2 cap2, .int .i64 b2] 67) := ⟨_, rfl⟩
  have HK := Hid.intro_ (show Keep Nil w W by rw [hW]; exact ((Keep.refl Nil w).alloc _).alloc _)
  have bC1 : Blk W w.heap.size 67 #[.slice A n cap, .int .i64 b] := by rw [hW]; exact (Blk.new w _ _).alloc _
  have bC2 : Blk W (w.heap.size + 1) 67 #[.slice A2 n2 cap2, .int .i64 b2] := by rw [hW]; exact Blk.new_at _ _ _ (by simp)
  have w0 : W.cell? ⟨w.heap.size, 0, none⟩ = some (.slice A n cap) := bC1.at_ 0
  have v0 : W.cell? ⟨w.heap.size + 1, 0, none⟩ = some (.slice A2 n2 cap2) := bC2.at_ 0
  have HU := Hid.intro_ hhu
  have HU2 := Hid.intro_ hhu2
  clear hhu hhu2 bC1 bC2 hn hn2
  go_enter Tryz.func5, Tryz.ntmps5
  go_upto_region 1 with (fail)
  rw [← hW]
  clear hW
  go_wp2_with (first
    | (go_at_call 8; with_reducible refine (HU.out _).mono ?_; rintro e w' ⟨rfl, hw⟩; obtain rfl := hw.symm)
    | (go_at_call 8; with_reducible refine (HU2.out _).mono ?_; rintro e w' ⟨rfl, hw⟩; obtain rfl := hw.symm))
  refine bodyPost_ret (v := .bool true) (by simp [results, Tryz.results5, go_sem]) rfl ⟨rfl, ?_⟩
  exact HK.out
end Go.Proofs.YtadipinnbehhhaaGreatDoor
