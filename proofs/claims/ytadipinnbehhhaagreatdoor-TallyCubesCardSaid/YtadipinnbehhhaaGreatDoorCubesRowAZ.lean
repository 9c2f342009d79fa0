/- Parts of the proof: AsksLaw TallyD TallyF TallyO. -/
import Derived.Test.YtadipinnbehhhaaGreatDoorCubesRowAY
import Derived.Test.YtadipinnbehhhaaGreatDoorCubesRowAU
import Derived.Test.YtadipinnbehhhaaGreatDoorCubesRowAX
namespace Go.Proofs.YtadipinnbehhhaaGreatDoor
open Go.RowKit

theorem law_tape (s : ByteArray) (d : Dg) (Au : Option Addr) (cu block : Nat) (W : World) (hb : 64 ≤ block ∧ block ≤ 65536 ∧ block % 32 = 0) (hd : InRows d) (hc : Rd W Au (rcCells (recsD d))) (hA : ∀ a, Au = some a → a.spot = none) (hcu : d.P.length + 1 ≤ cu) :
    Calls Tryz.prog 22 #[.string s, .int .i64 2, .slice Au (d.P.length + 1) cu, .int .i64 block] W fun x w' => ∃ Av cv, x = .returned (.agg #[.string s, .bool true, .slice Av (blocksB 2 (recsD d) block).length cv]) ∧ Hid (FsAt w' (fun b => W.heap.size ≤ b) (.slice Av (blocksB 2 (recsD d) block).length cv) (blocksB 2 (recsD d) block) ∧ Keep Nil W w') := by
  have h1 := hd.lt
  have h2 := hd.len
  have := tape_any s 2 block Au cu (recsD d) W (by omega) hb (by rw [recsD_len]; omega) hc hA hd.oks
  rw [recsD_len] at this
  refine this.mono fun x w' ⟨v, hx, hf, k⟩ => ?_
  obtain ⟨Av, cv, vs, hv, _⟩ := hf.out
  subst hv
  exact ⟨Av, cv, hx, Hid.intro_ ⟨hf, k⟩⟩
end Go.Proofs.YtadipinnbehhhaaGreatDoor
namespace Go.Proofs.YtadipinnbehhhaaGreatDoor
open Go.RowKit

theorem law_rows (f : FnN) (ok : FnOk f) (hv : f.n ≤ 65536) (C : Option Addr) (cc : Nat) (D : Option Addr) (cd : Nat) (W : World) (h : FnAt W f C D) :
    Calls Tryz.prog 174 #[fnV f C cc D cd] W fun x w' => ∃ Au cu, x = .returned (.slice Au ((rowsN f).P.length + 1) cu) ∧ Hid (Rd w' Au (rcCells (recsD (rowsN f))) ∧ Spotless Au ∧ (rowsN f).P.length + 1 ≤ cu ∧ Keep Nil W w') :=
  (rows_any f ok hv C cc D cd W h).mono fun x w' hp => by
    obtain ⟨⟨Au, cu, hx, h1, h2, h3, h4⟩⟩ := hp
    exact ⟨Au, cu, hx, Hid.intro_ ⟨h1, h2, h3, h4⟩⟩
theorem law_of (d : Dg) (hd : InRows d) (Au : Option Addr) (cu : Nat) (W : World) (hc : Rd W Au (rcCells (recsD d))) :
    Calls Tryz.prog 87 #[.slice Au (d.P.length + 1) cu] W fun x w' => ∃ A c, x = .returned (.tuple #[dgV d A c, .bool true]) ∧ Hid (DgAt w' d A ∧ (∀ a, A = some a → W.heap.size ≤ a.block) ∧ Keep Nil W w') := by
  have h1 := hd.lt
  have h2 := hd.len
  have := of_any Au cu (recsD d) W hc hd.oks (by rw [recsD_len]; omega)
  rw [recsD_len] at this
  refine this.mono fun x w' hp => ?_
  obtain ⟨A, c, base, hx, hb, ho⟩ := hp.some_ d hd.of_
  refine ⟨A, c, hx, Hid.intro_ ⟨⟨own_rd ho, (own_le ho).2⟩, fun a e => ?_, hp.keep⟩⟩
  have := row_base ho a e
  omega
theorem dg_stored {w w2 : World} {t : TypeId} {d : Dg} {A : Option Addr} {T : Nat} {x0 x1 x2 x3 : Value} (hb : Blk w2 T t #[x0, x1, x2, x3]) (hT : w.heap.size ≤ T) (k : Keep Nil w w2) (hd : DgAt w2 d A) (hA : ∀ a, A = some a → ¬ a.block = T) (u0 u1 u2 u3 : Value) (X : World) (hX : X = (((w2.setCell ⟨T, 0, none⟩ u0).setCell ⟨T, 1, none⟩ u1).setCell ⟨T, 2, none⟩ u2).setCell ⟨T, 3, none⟩ u3) :
    X.cell? ⟨T, 0, none⟩ = some u0 ∧ X.cell? ⟨T, 1, none⟩ = some u1 ∧ X.cell? ⟨T, 2, none⟩ = some u2 ∧ X.cell? ⟨T, 3, none⟩ = some u3 ∧ DgAt X d A ∧ Keep Nil w X := by
  subst hX
  have h1 : Blk (w2.setCell ⟨T, 0, none⟩ u0) T t #[u0, x1, x2, x3] := hb.set_ 0 u0
  have h2 : Blk ((w2.setCell ⟨T, 0, none⟩ u0).setCell ⟨T, 1, none⟩ u1) T t #[u0, u1, x2, x3] := h1.set_ 1 u1
  have h3 : Blk (((w2.setCell ⟨T, 0, none⟩ u0).setCell ⟨T, 1, none⟩ u1).setCell ⟨T, 2, none⟩ u2) T t #[u0, u1, u2, x3] := h2.set_ 2 u2
  have h4 : Blk ((((w2.setCell ⟨T, 0, none⟩ u0).setCell ⟨T, 1, none⟩ u1).setCell ⟨T, 2, none⟩ u2).setCell ⟨T, 3, none⟩ u3) T t #[u0, u1, u2, u3] := h3.set_ 3 u3
  have kX : Keep (fun z => z = T) w2 ((((w2.setCell ⟨T, 0, none⟩ u0).setCell ⟨T, 1, none⟩ u1).setCell ⟨T, 2, none⟩ u2).setCell ⟨T, 3, none⟩ u3) := ((((Keep.refl (fun z => z = T) w2).setCell (p := ⟨T, 0, none⟩) (fun _ => rfl) _).setCell (p := ⟨T, 1, none⟩) (fun _ => rfl) _).setCell (p := ⟨T, 2, none⟩) (fun _ => rfl) _).setCell (p := ⟨T, 3, none⟩) (fun _ => rfl) _
  exact ⟨h4.at_ 0, h4.at_ 1, h4.at_ 2, h4.at_ 3, ⟨hd.rd.keep kX (fun a e _ e2 => hA a e e2), hd.spot⟩, k.trans kX (fun z hz e => by have e : z = T := e; omega)⟩
theorem fi_stored {w w2 : World} {t : TypeId} {f : List (List Int)} {v : Value} {T B : Nat} {x0 x1 x2 : Value} (hb : Blk w2 T t #[x0, x1, x2]) (hT : w.heap.size ≤ T) (hB : T < B) (k : Keep Nil w w2) (hf : FsAt w2 (fun b => B ≤ b) v f) (u0 u1 u2 : Value) (X : World) (hX : X = ((w2.setCell ⟨T, 0, none⟩ u0).setCell ⟨T, 1, none⟩ u1).setCell ⟨T, 2, none⟩ u2) :
    X.cell? ⟨T, 0, none⟩ = some u0 ∧ X.cell? ⟨T, 1, none⟩ = some u1 ∧ X.cell? ⟨T, 2, none⟩ = some u2 ∧ FsAt X (fun b => w.heap.size ≤ b) v f ∧ Keep Nil w X := by
  subst hX
  have h1 : Blk (w2.setCell ⟨T, 0, none⟩ u0) T t #[u0, x1, x2] := hb.set_ 0 u0
  have h2 : Blk ((w2.setCell ⟨T, 0, none⟩ u0).setCell ⟨T, 1, none⟩ u1) T t #[u0, u1, x2] := h1.set_ 1 u1
  have h3 : Blk (((w2.setCell ⟨T, 0, none⟩ u0).setCell ⟨T, 1, none⟩ u1).setCell ⟨T, 2, none⟩ u2) T t #[u0, u1, u2] := h2.set_ 2 u2
  have kX : Keep (fun z => z = T) w2 (((w2.setCell ⟨T, 0, none⟩ u0).setCell ⟨T, 1, none⟩ u1).setCell ⟨T, 2, none⟩ u2) := (((Keep.refl (fun z => z = T) w2).setCell (p := ⟨T, 0, none⟩) (fun _ => rfl) _).setCell (p := ⟨T, 1, none⟩) (fun _ => rfl) _).setCell (p := ⟨T, 2, none⟩) (fun _ => rfl) _
  exact ⟨h3.at_ 0, h3.at_ 1, h3.at_ 2, (hf.keep kX (fun b h _ e => by have e : b = T := e; omega)).mono (fun b h _ => by omega), k.trans kX (fun z hz e => by have e : z = T := e; omega)⟩
set_option maxRecDepth 100000 in
set_option maxHeartbeats 4000000 in
theorem file_any (s : ByteArray) (f : FnN) (ok : FnOk f) (hv : f.n ≤ 65536) (A : Option Addr) (ca : Nat) (B : Option Addr) (cb block : Nat) (hb : 64 ≤ block ∧ block ≤ 65536 ∧ block % 32 = 0) (w : World) (h : FnAt w f A B) :
    Calls Tryz.prog 115 #[.string s, fnV f A ca B cb, .int .i64 block] w fun x w' => ∃ Av cv, x = .returned (.agg #[.string s, .bool true, .slice Av (blocksB 2 (recsD (rowsN f)) block).length cv]) ∧ Hid (FsAt w' (fun b => w.heap.size ≤ b) (.slice Av (blocksB 2 (recsD (rowsN f)) block).length cv) (blocksB 2 (recsD (rowsN f)) block) ∧ Keep Nil w w') := by
  have HRW := Hid.intro_ (fun W (k : Keep Nil w W) => law_rows f ok hv A ca B cb W (h.nil k))
  have HIR := Hid.intro_ (rowsN_ok ok hv).rows
  have HTP := Hid.intro_ (fun Au cu W hc hA hcu => law_tape s (rowsN f) Au cu block W hb HIR.out hc hA hcu)
  obtain ⟨d, hd⟩ : ∃ d, d = rowsN f := ⟨_, rfl⟩
  obtain ⟨n, hn⟩ : ∃ n, n = f.n := ⟨_, rfl⟩
  obtain ⟨l1, hl1⟩ : ∃ l, l = f.at_.length := ⟨_, rfl⟩
  obtain ⟨l2, hl2⟩ : ∃ l, l = f.bits.length := ⟨_, rfl⟩
  unfold fnV at HRW
  unfold fnV
  rw [← hd] at HTP HIR
  rw [← hd, ← hn, ← hl1, ← hl2] at HRW
  rw [← hd, ← hn, ← hl1, ← hl2]
  obtain ⟨F, hF⟩ : ∃ F, F = blocksB 2 (recsD d) block := ⟨_, rfl⟩
  obtain ⟨lF, hlF⟩ : ∃ l, l = F.length := ⟨_, rfl⟩
  rw [← hF] at HTP ⊢
  rw [← hlF] at HTP ⊢
  obtain ⟨rl, hrl⟩ : ∃ l, l = d.P.length := ⟨_, rfl⟩
  rw [← hrl] at HTP HRW
  obtain ⟨W0, hW0⟩ : ∃ W0, W0 = (w.alloc (.cells #[.int .i64 n, .slice A l1 ca, .slice B l2 cb] 226)).alloc (.cells #[.string ⟨#[]⟩, .bool false, .slice none 0 0] 55) := ⟨_, rfl⟩
  have HK0 := Hid.intro_ (show Keep Nil w W0 by rw [hW0]; exact ((Keep.refl Nil w).alloc _).alloc _)
  have hb0 : Blk W0 w.heap.size 226 #[.int .i64 n, .slice A l1 ca, .slice B l2 cb] := by rw [hW0]; exact (Blk.new w _ _).keep ((Keep.refl Nil _).alloc _) (fun h => h)
  have hr0 : Blk W0 (w.heap.size + 1) 55 #[.string ⟨#[]⟩, .bool false, .slice none 0 0] := by rw [hW0]; exact Blk.new_at _ _ _ (by simp)
  have c0 : W0.cell? ⟨w.heap.size, 0, none⟩ = some (.int .i64 n) := hb0.at_ 0
  have c1 : W0.cell? ⟨w.heap.size, 1, none⟩ = some (.slice A l1 ca) := hb0.at_ 1
  have c2 : W0.cell? ⟨w.heap.size, 2, none⟩ = some (.slice B l2 cb) := hb0.at_ 2
  have HR0 := Hid.intro_ hr0
  have HLT := Hid.intro_ (show w.heap.size + 1 < W0.heap.size from hr0.lt)
  clear h hd hn hl1 hl2 hF hlF hrl hb0 hr0 ok hv hb
  go_enter Tryz.func115, Tryz.ntmps115
  go_upto_region 1 with (fail)
  rw [← hW0]
  clear hW0
  go_wp2_with fail
  refine (HRW.out _ HK0.out).mono ?_
  rintro e w1 ⟨Au, cu, rfl, hu⟩
  have HTQ := Hid.intro_ (HTP.out Au cu w1 hu.out.1 hu.out.2.1 hu.out.2.2.1)
  clear HRW HTP c0 c1 c2
  go_wp2_with fail
  refine HTQ.out.mono ?_
  rintro e w2 ⟨Av, cv, rfl, ht⟩
  have br := HR0.out.keep (hu.out.2.2.2.then_ ht.out.2) (fun h => h)
  have r0 : w2.cell? ⟨w.heap.size + 1, 0, none⟩ = some (.string ⟨#[]⟩) := br.at_ 0
  have r1 : w2.cell? ⟨w.heap.size + 1, 1, none⟩ = some (.bool false) := br.at_ 1
  have r2 : w2.cell? ⟨w.heap.size + 1, 2, none⟩ = some (.slice none 0 0) := br.at_ 2
  have f0 := br.fr 0
  have f1 := br.fr 1
  have f2 := br.fr 2
  have HBR := Hid.intro_ br
  clear br
  go_wp2_with fail
  obtain ⟨X, hX⟩ : ∃ X, X = ((w2.setCell ⟨w.heap.size + 1, 0, none⟩ (.string s)).setCell ⟨w.heap.size + 1, 1, none⟩ (.bool true)).setCell ⟨w.heap.size + 1, 2, none⟩ (.slice Av lF cv) := ⟨_, rfl⟩
  rw [← hX]
  obtain ⟨y0, y1, y2, hfs, hk⟩ := fi_stored (B := w1.heap.size) HBR.out (by omega) (by have := hu.out.2.2.2.size; have := HLT.out; omega) ((HK0.out.then_ hu.out.2.2.2).then_ ht.out.2) ht.out.1 _ _ _ X hX
  clear hX
  refine bodyPost_ret (v := .agg #[.string s, .bool true, .slice Av lF cv]) (by simp [results, Tryz.results115, go_sem, y0, y1, y2]) rfl ⟨Av, cv, rfl, Hid.intro_ ⟨hfs, hk⟩⟩
set_option maxRecDepth 100000 in
set_option maxHeartbeats 4000000 in
theorem diagram_any (nn : Int) (A1 : Option Addr) (c1 : Nat) (at_ : List Int) (A2 : Option Addr) (c2 : Nat) (bits : List Bool) (bb mm : Int) (w : World) (h : CaAt w A1 at_ A2 bits) :
    Calls Tryz.prog 118 #[caV nn A1 at_.length c1 A2 bits.length c2 bb mm] w fun e w' => ∃ A cap, e = .returned (dgV (rowsN (caseF nn at_ bits)) A cap) ∧ DgAt w' (rowsN (caseF nn at_ bits)) A ∧ Keep Nil w w' := by
  have HFN := Hid.intro_ (fun W (k : Keep Nil w W) => function_any nn A1 c1 at_ A2 c2 bits bb mm W (h.nil k))
  obtain ⟨ok, hv⟩ := caseF_ok nn at_ bits
  have HRW := Hid.intro_ (fun C cc D cd W (hf : FnAt W (caseF nn at_ bits) C D) => law_rows (caseF nn at_ bits) ok hv C cc D cd W hf)
  have HIR := Hid.intro_ (rowsN_ok ok hv).rows
  have HOF := Hid.intro_ (fun Au cu W hc => law_of (rowsN (caseF nn at_ bits)) HIR.out Au cu W hc)
  obtain ⟨F, hF⟩ : ∃ F, F = caseF nn at_ bits := ⟨_, rfl⟩
  obtain ⟨l1, hl1⟩ : ∃ l, l = at_.length := ⟨_, rfl⟩
  obtain ⟨l2, hl2⟩ : ∃ l, l = bits.length := ⟨_, rfl⟩
  unfold caV at HFN
  unfold caV
  rw [← hF, ← hl1, ← hl2] at HFN
  rw [← hF] at HRW HOF HIR
  rw [← hF, ← hl1, ← hl2]
  obtain ⟨d, hd⟩ : ∃ d, d = rowsN F := ⟨_, rfl⟩
  rw [← hd] at HRW HOF HIR ⊢
  obtain ⟨rl, hrl⟩ : ∃ l, l = d.P.length := ⟨_, rfl⟩
  obtain ⟨x0, hx0⟩ : ∃ x, x = F.n := ⟨_, rfl⟩
  obtain ⟨x1, hx1⟩ : ∃ x, x = F.at_.length := ⟨_, rfl⟩
  obtain ⟨x2, hx2⟩ : ∃ x, x = F.bits.length := ⟨_, rfl⟩
  obtain ⟨d0, hd0⟩ : ∃ x, x = d.v := ⟨_, rfl⟩
  obtain ⟨d1, hd1⟩ : ∃ x, x = d.r := ⟨_, rfl⟩
  obtain ⟨d2, hd2⟩ : ∃ x, x = d.m := ⟨_, rfl⟩
  unfold fnV at HRW
  unfold dgV at HOF
  unfold dgV
  rw [← hrl, ← hx0, ← hx1, ← hx2] at HRW
  rw [← hrl, ← hd0, ← hd1, ← hd2] at HOF
  rw [← hrl, ← hd0, ← hd1, ← hd2]
  obtain ⟨W0, hW0⟩ : ∃ W0, W0 = (w.alloc (.cells #[.int .i64 nn, .slice A1 l1 c1, .slice A2 l2 c2, .int .i64 bb, .int .i64 mm] 124)).alloc (.cells #[.int .i64 0, .int .u64 0, .int .i64 0, .slice none 0 0] 86) := ⟨_, rfl⟩
  have HK0 := Hid.intro_ (show Keep Nil w W0 by rw [hW0]; exact ((Keep.refl Nil w).alloc _).alloc _)
  have hb0 : Blk W0 w.heap.size 124 #[.int .i64 nn, .slice A1 l1 c1, .slice A2 l2 c2, .int .i64 bb, .int .i64 mm] := by rw [hW0]; exact (Blk.new w _ _).keep ((Keep.refl Nil _).alloc _) (fun h => h)
  have hr0 : Blk W0 (w.heap.size + 1) 86 #[.int .i64 0, .int .u64 0, .int .i64 0, .slice none 0 0] := by rw [hW0]; exact Blk.new_at _ _ _ (by simp)
  have b0 : W0.cell? ⟨w.heap.size, 0, none⟩ = some (.int .i64 nn) := hb0.at_ 0
  have b1 : W0.cell? ⟨w.heap.size, 1, none⟩ = some (.slice A1 l1 c1) := hb0.at_ 1
  have b2 : W0.cell? ⟨w.heap.size, 2, none⟩ = some (.slice A2 l2 c2) := hb0.at_ 2
  have b3 : W0.cell? ⟨w.heap.size, 3, none⟩ = some (.int .i64 bb) := hb0.at_ 3
  have b4 : W0.cell? ⟨w.heap.size, 4, none⟩ = some (.int .i64 mm) := hb0.at_ 4
  have HR0 := Hid.intro_ hr0
  have HLT := Hid.intro_ (show w.heap.size + 1 < W0.heap.size from hr0.lt)
  have HXX := Hid.intro_ (And.intro hx0 (And.intro hx1 hx2))
  clear h hd hl1 hl2 hF hrl hx0 hx1 hx2 hd0 hd1 hd2 hb0 hr0 ok hv
  go_enter Tryz.func118, Tryz.ntmps118
  go_upto_region 1 with (fail)
  rw [← hW0]
  clear hW0
  go_wp2_with fail
  refine (HFN.out _ HK0.out).mono ?_
  rintro e w1 ⟨⟨C, cc, D, cd, rfl, hfa, k1, _, _⟩⟩
  have HRX := Hid.intro_ (HRW.out C cc D cd w1 hfa)
  unfold fnV
  rw [← HXX.out.1, ← HXX.out.2.1, ← HXX.out.2.2]
  have HK1 := Hid.intro_ (HK0.out.then_ k1)
  have HKA := Hid.intro_ k1
  clear hfa k1 HRW HFN b0 b1 b2 b3 b4
  go_wp2_with fail
  refine HRX.out.mono ?_
  rintro e w2 ⟨Au, cu, rfl, hu⟩
  have HOX := Hid.intro_ (HOF.out Au cu w2 hu.out.1)
  clear HOF HRX
  go_wp2_with fail
  refine HOX.out.mono ?_
  rintro e w3 ⟨A, c, rfl, ho⟩
  obtain ⟨W4, hW4⟩ : ∃ W, W = w3.alloc (.cells #[.int .i64 d0, .int .u64 d1, .int .i64 d2, .slice A rl c] 86) := ⟨_, rfl⟩
  have k34 : Keep Nil w3 W4 := by rw [hW4]; exact (Keep.refl Nil w3).alloc _
  have hb4 : Blk W4 w3.heap.size 86 #[.int .i64 d0, .int .u64 d1, .int .i64 d2, .slice A rl c] := by rw [hW4]; exact Blk.new w3 _ _
  have e0 : W4.cell? ⟨w3.heap.size, 0, none⟩ = some (.int .i64 d0) := hb4.at_ 0
  have e1 : W4.cell? ⟨w3.heap.size, 1, none⟩ = some (.int .u64 d1) := hb4.at_ 1
  have e2 : W4.cell? ⟨w3.heap.size, 2, none⟩ = some (.int .i64 d2) := hb4.at_ 2
  have e3 : W4.cell? ⟨w3.heap.size, 3, none⟩ = some (.slice A rl c) := hb4.at_ 3
  have br := HR0.out.keep (((HKA.out.then_ hu.out.2.2.2).then_ ho.out.2.2).then_ k34) (fun h => h)
  have r0 : W4.cell? ⟨w.heap.size + 1, 0, none⟩ = some (.int .i64 0) := br.at_ 0
  have r1 : W4.cell? ⟨w.heap.size + 1, 1, none⟩ = some (.int .u64 0) := br.at_ 1
  have r2 : W4.cell? ⟨w.heap.size + 1, 2, none⟩ = some (.int .i64 0) := br.at_ 2
  have r3 : W4.cell? ⟨w.heap.size + 1, 3, none⟩ = some (.slice none 0 0) := br.at_ 3
  have f0 := br.fr 0
  have f1 := br.fr 1
  have f2 := br.fr 2
  have f3 := br.fr 3
  have HBR := Hid.intro_ br
  have HK4 := Hid.intro_ ((((HK1.out).then_ hu.out.2.2.2).then_ ho.out.2.2).then_ k34)
  have HDA := Hid.intro_ (ho.out.1.nil k34)
  clear br k34 hb4
  go_upto_region 2 with (fail)
  rw [← hW4]
  clear hW4
  go_wp2_with fail
  obtain ⟨X, hX⟩ : ∃ X, X = (((W4.setCell ⟨w.heap.size + 1, 0, none⟩ (.int .i64 d0)).setCell ⟨w.heap.size + 1, 1, none⟩ (.int .u64 d1)).setCell ⟨w.heap.size + 1, 2, none⟩ (.int .i64 d2)).setCell ⟨w.heap.size + 1, 3, none⟩ (.slice A rl c) := ⟨_, rfl⟩
  rw [← hX]
  obtain ⟨y0, y1, y2, y3, hda, hk⟩ := dg_stored HBR.out (by omega) HK4.out HDA.out (fun a e => by have := ho.out.2.1 a e; have := HLT.out; have := (HKA.out.then_ hu.out.2.2.2).size; omega) _ _ _ _ X hX
  clear hX
  refine bodyPost_ret (v := .agg #[.int .i64 d0, .int .u64 d1, .int .i64 d2, .slice A rl c]) (by simp [results, Tryz.results118, go_sem, y0, y1, y2, y3]) rfl ⟨A, c, rfl, hda, hk⟩
end Go.Proofs.YtadipinnbehhhaaGreatDoor
namespace Go.Proofs.YtadipinnbehhhaaGreatDoor
open Go.RowKit

def nmHalf : ByteArray := ⟨#[104, 97, 108, 102]⟩
def nmRaw : ByteArray := ⟨#[114, 97, 119]⟩
def rawRec : R4 := ⟨1, 2, 3, 4⟩
def tcFs (L : List R4) (block : Nat) : List (ByteArray × AFile) := [(nmF, ndFile L block), (nmHalf, ⟨false, []⟩), (nmRaw, ⟨true, blocksB 1 [rawRec] block⟩)]
section
variable {block K : Nat} {L : List R4}
theorem sortF_tc : sortF [(nmF, ndFile L block), (nmRaw, ⟨true, blocksB 1 [rawRec] block⟩), (nmHalf, ⟨false, []⟩)] = tcFs L block := by
  have hb1 : Op.bytesLess [114, 97, 119] [102] = false := by decide
  have hb2 : Op.bytesLess [104, 97, 108, 102] [102] = false := by decide
  have hb3 : Op.bytesLess [104, 97, 108, 102] [114, 97, 119] = true := by decide
  simp [sortF, ins, insR, insStep, tcFs, nmF, nmHalf, nmRaw, hb1, hb2, hb3]
theorem tc_names : (tcFs L block).map (·.1) = [nmF, nmHalf, nmRaw] := rfl
theorem tc_mem {f : ByteArray × AFile} (h : f ∈ tcFs L block) : f = (nmF, ndFile L block) ∨ f = (nmHalf, ⟨false, []⟩) ∨ f = (nmRaw, ⟨true, blocksB 1 [rawRec] block⟩) := by
  unfold tcFs at h
  simpa using h
theorem tc_ok : ∀ f ∈ tcFs L block, okName f.1 = true := by
  intro f hf
  rcases tc_mem hf with rfl | rfl | rfl
  · exact nmF_ok
  · show okName nmHalf = true; decide +kernel
  · show okName nmRaw = true; decide +kernel
theorem tc_rises : rises ((tcFs L block).map (·.1)) := by
  rw [tc_names]
  unfold rises
  rw [List.pairwise_cons, List.pairwise_cons]
  refine ⟨fun b hb => ?_, fun b hb => ?_, List.pairwise_singleton _ _⟩
  · simp only [List.mem_cons, List.not_mem_nil, or_false] at hb
    rcases hb with rfl | rfl
    · decide +kernel
    · decide +kernel
  · simp only [List.mem_cons, List.not_mem_nil, or_false] at hb
    rcases hb with rfl
    decide +kernel
theorem tc_blocks (hF : fit block = K) (h0 : 0 < K) : ∀ f ∈ tcFs L block, ∀ b ∈ f.2.blocks, b.length = block := by
  intro f hf b hb
  rcases tc_mem hf with rfl | rfl | rfl
  · exact blocksB_size 2 _ hF h0 b hb
  · simp at hb
  · exact blocksB_size 1 _ hF h0 b hb
theorem tc_bytes : Bytes (tcFs L block) := by
  intro f hf b hb
  rcases tc_mem hf with rfl | rfl | rfl
  · exact blocksB_bytes 2 _ (by omega) b hb
  · simp at hb
  · exact blocksB_bytes 1 _ (by omega) b hb
theorem tc_total (hF : fit block = K) (h0 : 0 < K) : total (tcFs L block) ≤ L.length + 1 := by
  have h2 := nd_len L hF h0
  have hb : 0 < block / 32 - 1 := by
    unfold fit at hF
    split at hF <;> omega
  have h3 : (blocksB 1 [rawRec] block).length ≤ 1 := by rw [blocksB_len]; exact nblk_le _ _ hb
  unfold total
  show (ndFile L block).blocks.length + (0 + ((blocksB 1 [rawRec] block).length + 0)) ≤ _
  omega
theorem tc_f {c : Cx} (h : ∀ r ∈ L, r.Ok) (hl : L.length ≤ 268435456) : TapeOn c (tcFs L c.block) nmF 2 L := by
  refine ⟨nmF_ok, ⟨0, ?_⟩, h, by omega, by omega⟩
  unfold tcFs fpos
  rw [if_pos rfl]
  rfl
end

def kC (bb : Int) : Nat := (1 + bb % 9).toNat
theorem kC_fit (bb : Int) : fit (blkC bb) = kC bb ∧ 0 < kC bb ∧ kC bb ≤ 9 ∧ ((blkC bb : Nat) : Int) = 32 * (kC bb : Int) + 32 := by
  have h2 := Int.emod_nonneg bb (b := 9) (by omega)
  have h3 := Int.emod_lt_of_pos bb (b := 9) (by omega)
  have e : ((blkC bb : Nat) : Int) = 64 + 32 * (bb % 9) := by unfold blkC; omega
  refine ⟨?_, ?_, ?_, ?_⟩
  · rw [e, fit_K ⟨h2, by omega⟩]
    unfold kC
    omega
  · unfold kC; omega
  · unfold kC; omega
  · rw [e]
    unfold kC
    omega
theorem and_few (m : Int) : 0 ≤ bits .and .i64 m 65535 ∧ bits .and .i64 m 65535 ≤ 65535 := by
  have h : (BitVec.ofInt 64 m &&& BitVec.ofInt 64 65535).toNat ≤ 65535 := by
    rw [BitVec.toNat_and]
    exact Nat.and_le_right
  have e : bits .and .i64 m 65535 = ((BitVec.ofInt 64 m &&& BitVec.ofInt 64 65535).toNat : Int) := by
    show IntKind.i64.wrap ((BitVec.ofInt 64 m &&& BitVec.ofInt 64 65535).toNat : Int) = _
    exact iwrap_low (by omega)
  rw [e]
  omega
structure OpPost (E : Nat → Addr) (block K : Nat) (fs : List (ByteArray × AFile)) (w : World) (e : Ending) (w' : World) : Prop where mk ::
  out : ∃ d p lk k G lim, e = .returned (.tuple #[.agg #[.pointer (some ⟨d, 0, none⟩), .pointer (some ⟨p, 0, none⟩), .pointer (some ⟨k, 0, none⟩)], .bool true]) ∧
    RmAt ⟨E, d, p, lk, k, none, K, block⟩ w' G { D := mountD (block : Int) 1073741824 fs, S := PSt.new lim, next := 1 } ∧ 64 * (K : Int) ≤ lim ∧ (∀ z, G z → w.heap.size ≤ z) ∧ Keep Nil w w'
def OpSt (W : World) (block : Nat) (fs : List (ByteArray × AFile)) (v8 : Value) (wd : World) : Prop :=
  ∃ T A c, v8 = .pointer (some ⟨T, 0, none⟩) ∧ Keep Nil W wd ∧ Blk wd T 28 #[.int .i64 block, .slice A 3 c] ∧ StAt wd (fun _ => True) (.agg #[.int .i64 block, .slice A 3 c]) block fs
theorem op_ahead {W w6 : World} {T block c6 : Nat} {fs : List (ByteArray × AFile)} {A6 : Option Addr} (k6 : Keep Nil W w6) (hT : W.heap.size ≤ T) (b6 : Blk w6 T 28 #[.int .i64 0, .slice none 0 0]) (hf : FlAt w6 (fun _ => True) (.slice A6 3 c6) fs) :
    OpSt W block fs (.pointer (some ⟨T, 0, none⟩)) ((w6.setCell ⟨T, 0, none⟩ (.int .i64 block)).setCell ⟨T, 1, none⟩ (.slice A6 3 c6)) := by
  have ks : Keep (fun z => z = T) w6 ((w6.setCell ⟨T, 0, none⟩ (.int .i64 block)).setCell ⟨T, 1, none⟩ (.slice A6 3 c6)) := ((Keep.refl (fun z => z = T) w6).setCell (p := ⟨T, 0, none⟩) (fun _ => rfl) _).setCell (p := ⟨T, 1, none⟩) (fun _ => rfl) _
  refine ⟨T, A6, c6, rfl, k6.trans ks (fun z hz e => by have e : z = T := e; omega), (b6.set_ 0 _).set_ 1 _, ⟨_, rfl, hf.far ks (fun cs t fr hc => ?_)⟩⟩
  unfold Blk at b6
  rw [hc] at b6
  injection b6 with b6
  injection b6 with _ b6
  subst b6
  exact ⟨by decide, by decide, by decide⟩
theorem op_behind {W w6 : World} {block c6 : Nat} {fs : List (ByteArray × AFile)} {A6 : Option Addr} (k6 : Keep Nil W w6) (hf : FlAt w6 (fun _ => True) (.slice A6 3 c6) fs) :
    OpSt W block fs (.pointer (some ⟨w6.heap.size, 0, none⟩)) (w6.alloc (.cells #[.int .i64 block, .slice A6 3 c6] 28)) :=
  ⟨w6.heap.size, A6, c6, rfl, k6.alloc _, Blk.new w6 _ _, ⟨_, rfl, hf.nil ((Keep.refl Nil w6).alloc _)⟩⟩
theorem fl_three {V : World} {v1 v2 : Value} {g : Nat} {s1 s2 s3 : ByteArray} {f1 f2 : List (List Int)} (h1 : FsAt V (fun _ => True) v1 f1) (h2 : FsAt V (fun _ => True) v2 f2) (hg : V.heap.size = g) :
    FlAt (V.alloc (.cells #[.string s1, .bool true, v1, .string s2, .bool true, v2, .string s3, .bool false, .slice none 0 0] 55)) (fun _ => True) (.slice (some ⟨g, 0, none⟩) 3 3) [(s1, ⟨true, f1⟩), (s2, ⟨true, f2⟩), (s3, ⟨false, []⟩)] := by
  subst hg
  have bf := Blk.new V 55 #[.string s1, .bool true, v1, .string s2, .bool true, v2, .string s3, .bool false, .slice none 0 0]
  have ka : Keep Nil V (V.alloc (.cells #[.string s1, .bool true, v1, .string s2, .bool true, v2, .string s3, .bool false, .slice none 0 0] 55)) := (Keep.refl Nil V).alloc _
  refine ⟨some ⟨V.heap.size, 0, none⟩, 3, [v1, v2, .slice none 0 0], rfl, rfl, fun j u hu => ⟨_, rfl, ?_⟩, fun a e => ?_, fun a e => ?_, fun j r f hr hf => ?_⟩
  · rw [add_at, Nat.zero_add]
    refine (bf.at_ j).trans ?_
    rw [← hu, List.getElem?_toArray]
    rfl
  · injection e with e
    subst e
    exact ⟨trivial, bf.lt, rfl⟩
  · injection e with e
    subst e
    exact ⟨_, _, bf⟩
  · match j with
    | 0 => injection hr with hr; injection hf with hf; subst hr hf; exact h1.nil ka
    | 1 => injection hr with hr; injection hf with hf; subst hr hf; exact h2.nil ka
    | 2 => injection hr with hr; injection hf with hf; subst hr hf; exact (OFs.nil_ _ 0 _).fs (fun g hg => by cases hg)
    | j + 3 => simp at hr
end Go.Proofs.YtadipinnbehhhaaGreatDoor
namespace Go.Proofs.YtadipinnbehhhaaGreatDoor
open Go.RowKit

set_option maxRecDepth 100000 in
set_option maxHeartbeats 16000000 in
theorem topen_any (E : Nat → Addr) (nn : Int) (A1 : Option Addr) (c1 : Nat) (at_ : List Int) (A2 : Option Addr) (c2 : Nat) (bits : List Bool) (bb mm : Int) (w : World) (h : CaAt w A1 at_ A2 bits) (he : ErrsAt w E) (hh : HalvesAt w) (hm : MagicAt w) :
    Calls Tryz.prog 52 #[caV nn A1 at_.length c1 A2 bits.length c2 bb mm, .slice none 0 0] w (OpPost E (blkC bb) (kC bb) (tcFs (recsD (rowsN (caseF nn at_ bits))) (blkC bb)) w) := by
  have HBK := Hid.intro_ (fun W => tblock_any nn A1 at_.length c1 A2 bits.length c2 bb mm W)
  have HFN := Hid.intro_ (fun W (k : Keep Nil w W) => function_any nn A1 c1 at_ A2 c2 bits bb mm W (h.nil k))
  obtain ⟨ok, hv⟩ := caseF_ok nn at_ bits
  obtain ⟨b1, b2, b3, b4⟩ := blkC_ok bb
  obtain ⟨q1, q2, q3, q4⟩ := kC_fit bb
  have hlen : (recsD (rowsN (caseF nn at_ bits))).length ≤ 131073 := by rw [recsD_len]; have := rowsN_len ok hv; omega
  obtain ⟨block, hblock⟩ : ∃ b, b = blkC bb := ⟨_, rfl⟩
  obtain ⟨K, hK⟩ : ∃ b, b = kC bb := ⟨_, rfl⟩
  rw [← hblock] at b1 b2 b3 b4 q1 q4 HBK
  rw [← hK] at q1 q2 q3 q4
  rw [← hblock, ← hK]
  obtain ⟨F, hF⟩ : ∃ F, F = caseF nn at_ bits := ⟨_, rfl⟩
  rw [← hF] at HFN ok hv hlen ⊢
  have HFI := Hid.intro_ (fun C cc D cd W (hf : FnAt W F C D) => file_any ⟨#[102]⟩ F ok hv C cc D cd block ⟨b1, b2, b3⟩ W hf)
  obtain ⟨Ls, hLs⟩ : ∃ l, l = recsD (rowsN F) := ⟨_, rfl⟩
  rw [← hLs] at hlen HFI ⊢
  obtain ⟨fB, hfB⟩ : ∃ x, x = blocksB 2 Ls block := ⟨_, rfl⟩
  obtain ⟨lF, hlF⟩ : ∃ x, x = fB.length := ⟨_, rfl⟩
  rw [← hfB] at HFI
  rw [← hlF] at HFI
  obtain ⟨fR, hfR⟩ : ∃ x, x = blocksB 1 [rawRec] block := ⟨_, rfl⟩
  obtain ⟨lR, hlR⟩ : ∃ x, x = fR.length := ⟨_, rfl⟩
  have HTP := Hid.intro_ (fun (V : World) => tape_any ⟨#[114, 97, 119]⟩ 1 block (some ⟨V.heap.size, 0, none⟩) 1 [rawRec] (V.alloc (.cells #[.int .u64 1, .int .u64 2, .int .u64 3, .int .u64 4] 111)) (by omega) ⟨b1, b2, b3⟩ (by simp) (by
    intro j u hu
    refine ⟨_, rfl, ?_⟩
    rw [add_at, Nat.zero_add]
    have bV := Blk.new V 111 #[.int .u64 1, .int .u64 2, .int .u64 3, .int .u64 4]
    have hj : j < 4 := by have := (List.getElem?_eq_some_iff.1 hu).1; simp [rcCells, R4.ws] at this; omega
    match j, hj with
    | 0, _ => injection hu with hu; subst hu; exact bV.at_ 0
    | 1, _ => injection hu with hu; subst hu; exact bV.at_ 1
    | 2, _ => injection hu with hu; subst hu; exact bV.at_ 2
    | 3, _ => injection hu with hu; subst hu; exact bV.at_ 3) (by intro a e; injection e with e; subst e; rfl) (by
    intro r hr
    simp at hr
    subst hr
    constructor <;> simp [rawRec]))
  rw [← hfR] at HTP
  have HSO := Hid.intro_ (show sortF [(nmF, ⟨true, fB⟩), (nmRaw, ⟨true, fR⟩), (nmHalf, ⟨false, []⟩)] = tcFs Ls block by rw [hfB, hfR]; exact sortF_tc)
  obtain ⟨fs, hfs⟩ : ∃ x, x = tcFs Ls block := ⟨_, rfl⟩
  have HM := Hid.intro_ (fun (H : Nat → Prop) (v : Value) (W : World) (hs : StAt W H v block fs) => mount_ok H v block 1073741824 fs W hs (by omega) (by omega) (by omega) (by decide) (by decide) (by rw [hfs]; exact tc_ok) (by rw [hfs]; intro f hf b hb; have := tc_blocks q1 q2 f hf b hb; omega) (by rw [hfs]; exact tc_bytes) (by rw [hfs]; exact tc_rises) (by rw [hfs]; have := tc_total (L := Ls) q1 q2; omega) (by rw [hfs]; simp [tcFs]))
  rw [← hfs] at HSO ⊢
  have HL3 := Hid.intro_ (show fs.length = 3 by rw [hfs]; rfl)
  have HST := Hid.intro_ (fun (X : World) (g : Nat) (hf : FlAt X (fun _ => True) (.slice (some ⟨g, 0, none⟩) 3 3) [(nmF, ⟨true, fB⟩), (nmRaw, ⟨true, fR⟩), (nmHalf, ⟨false, []⟩)]) => (by
    have := rstate_any (fun _ => True) block _ _ X hf (by simp)
    rw [HSO.out] at this
    exact this : Calls Tryz.prog 56 #[.int .i64 block, .slice (some ⟨g, 0, none⟩) 3 3] X (StateRPost X (fun _ => True) block fs)))
  obtain ⟨l1, hl1⟩ : ∃ l, l = at_.length := ⟨_, rfl⟩
  obtain ⟨l2, hl2⟩ : ∃ l, l = bits.length := ⟨_, rfl⟩
  unfold caV at HBK HFN
  unfold caV
  rw [← hl1, ← hl2] at HBK HFN
  rw [← hl1, ← hl2]
  obtain ⟨W0, hW0⟩ : ∃ W0, W0 = (w.alloc (.cells #[.int .i64 nn, .slice A1 l1 c1, .slice A2 l2 c2, .int .i64 bb, .int .i64 mm] 124)).alloc (.cells #[.pointer none, .pointer none, .pointer none] 126) := ⟨_, rfl⟩
  have HK0 := Hid.intro_ (show Keep Nil w W0 by rw [hW0]; exact ((Keep.refl Nil w).alloc _).alloc _)
  have hb0 : Blk W0 w.heap.size 124 #[.int .i64 nn, .slice A1 l1 c1, .slice A2 l2 c2, .int .i64 bb, .int .i64 mm] := by rw [hW0]; exact (Blk.new w _ _).keep ((Keep.refl Nil _).alloc _) (fun h => h)
  have hr0 : Blk W0 (w.heap.size + 1) 126 #[.pointer none, .pointer none, .pointer none] := by rw [hW0]; exact Blk.new_at _ _ _ (by simp)
  have i0 : W0.cell? ⟨w.heap.size, 0, none⟩ = some (.int .i64 nn) := hb0.at_ 0
  have i1 : W0.cell? ⟨w.heap.size, 1, none⟩ = some (.slice A1 l1 c1) := hb0.at_ 1
  have i2 : W0.cell? ⟨w.heap.size, 2, none⟩ = some (.slice A2 l2 c2) := hb0.at_ 2
  have i3 : W0.cell? ⟨w.heap.size, 3, none⟩ = some (.int .i64 bb) := hb0.at_ 3
  have i4 : W0.cell? ⟨w.heap.size, 4, none⟩ = some (.int .i64 mm) := hb0.at_ 4
  have HB0 := Hid.intro_ hb0
  have HR0 := Hid.intro_ hr0
  have HLT := Hid.intro_ (show w.heap.size + 1 < W0.heap.size from hr0.lt)
  have HE := Hid.intro_ (And.intro he (And.intro hh hm))
  have HQ := Hid.intro_ (And.intro q1 (And.intro q2 (And.intro q3 q4)))
  have HBB := Hid.intro_ (And.intro b1 (And.intro b2 b3))
  have HLR := Hid.intro_ hlR
  have HLF := Hid.intro_ hlF
  clear h he hh hm q1 q2 q3 q4 b1 b2 b3 b4 hlen ok hv hF hLs hfB hlF hfR hlR hfs hl1 hl2 hb0 hr0 hblock hK HSO
  go_enter Tryz.func52, Tryz.ntmps52
  go_upto_region 1 with (fail)
  rw [← hW0]
  clear hW0
  go_wp2_with fail
  refine (HBK.out W0).mono ?_
  rintro e w1 ⟨rfl, k1⟩
  have HK1 := Hid.intro_ k1
  have HTX := Hid.intro_ (HTP.out w1)
  clear k1 i0 i1 i2 i3 i4 HBK HTP
  go_wp2_with fail
  refine HTX.out.mono ?_
  rintro e w2 ⟨v, rfl, hft, k2⟩
  obtain ⟨Av, cv, rfl⟩ : ∃ A c, v = .slice A lR c := by obtain ⟨A, c, _, e, _⟩ := hft.out; rw [← HLR.out] at e; exact ⟨A, c, e⟩
  obtain ⟨W2, hW2⟩ : ∃ W, W = w2.alloc (.cells #[.string ⟨#[114, 97, 119]⟩, .bool true, .slice Av lR cv] 55) := ⟨_, rfl⟩
  have k22 : Keep Nil w2 W2 := by rw [hW2]; exact (Keep.refl Nil w2).alloc _
  have hbf : Blk W2 w2.heap.size 55 #[.string ⟨#[114, 97, 119]⟩, .bool true, .slice Av lR cv] := by rw [hW2]; exact Blk.new w2 _ _
  have hk02 : Keep Nil W0 W2 := ((HK1.out.alloc _).then_ k2).then_ k22
  have HFT := Hid.intro_ ((hft.nil k22).mono (H' := fun _ => True) (fun _ _ _ => trivial))
  have hbx := HB0.out.keep hk02 (fun h => h)
  have HBX := Hid.intro_ hbx
  have HBF := Hid.intro_ hbf
  have HK2 := Hid.intro_ (HK0.out.then_ hk02)
  have HK02 := Hid.intro_ hk02
  have HS := Hid.intro_ (show ∀ V, Keep Nil W2 V → V.cell? ⟨w.heap.size, 0, none⟩ = some (.int .i64 nn) ∧ V.cell? ⟨w.heap.size, 1, none⟩ = some (.slice A1 l1 c1) ∧ V.cell? ⟨w.heap.size, 2, none⟩ = some (.slice A2 l2 c2) ∧ V.cell? ⟨w.heap.size, 3, none⟩ = some (.int .i64 bb) ∧ V.cell? ⟨w.heap.size, 4, none⟩ = some (.int .i64 mm) ∧ V.cell? ⟨w2.heap.size, 0, none⟩ = some (.string ⟨#[114, 97, 119]⟩) ∧ V.cell? ⟨w2.heap.size, 1, none⟩ = some (.bool true) ∧ V.cell? ⟨w2.heap.size, 2, none⟩ = some (.slice Av lR cv) from fun V k => by
    have x := HBX.out.keep k (fun h => h)
    have y := HBF.out.keep k (fun h => h)
    exact ⟨x.at_ 0, x.at_ 1, x.at_ 2, x.at_ 3, x.at_ 4, y.at_ 0, y.at_ 1, y.at_ 2⟩)
  have HSX := Hid.intro_ (show ∀ V T x1 x2, Keep Nil W2 V → W2.heap.size ≤ T → ((V.setCell ⟨T, 0, none⟩ x1).setCell ⟨T, 1, none⟩ x2).cell? ⟨w.heap.size, 0, none⟩ = some (.int .i64 nn) ∧ ((V.setCell ⟨T, 0, none⟩ x1).setCell ⟨T, 1, none⟩ x2).cell? ⟨w.heap.size, 1, none⟩ = some (.slice A1 l1 c1) ∧ ((V.setCell ⟨T, 0, none⟩ x1).setCell ⟨T, 1, none⟩ x2).cell? ⟨w.heap.size, 2, none⟩ = some (.slice A2 l2 c2) ∧ ((V.setCell ⟨T, 0, none⟩ x1).setCell ⟨T, 1, none⟩ x2).cell? ⟨w.heap.size, 3, none⟩ = some (.int .i64 bb) ∧ ((V.setCell ⟨T, 0, none⟩ x1).setCell ⟨T, 1, none⟩ x2).cell? ⟨w.heap.size, 4, none⟩ = some (.int .i64 mm) ∧ ((V.setCell ⟨T, 0, none⟩ x1).setCell ⟨T, 1, none⟩ x2).cell? ⟨w2.heap.size, 0, none⟩ = some (.string ⟨#[114, 97, 119]⟩) ∧ ((V.setCell ⟨T, 0, none⟩ x1).setCell ⟨T, 1, none⟩ x2).cell? ⟨w2.heap.size, 1, none⟩ = some (.bool true) ∧ ((V.setCell ⟨T, 0, none⟩ x1).setCell ⟨T, 1, none⟩ x2).cell? ⟨w2.heap.size, 2, none⟩ = some (.slice Av lR cv) from fun V T x1 x2 k hT => by
    have ks : Keep (fun z => z = T) V ((V.setCell ⟨T, 0, none⟩ x1).setCell ⟨T, 1, none⟩ x2) := ((Keep.refl (fun z => z = T) V).setCell (p := ⟨T, 0, none⟩) (fun _ => rfl) _).setCell (p := ⟨T, 1, none⟩) (fun _ => rfl) _
    have h1 := HBX.out.lt
    have h2 := HBF.out.lt
    have x := (HBX.out.keep k (fun h => h)).keep ks (fun e => by have e : w.heap.size = T := e; omega)
    have y := (HBF.out.keep k (fun h => h)).keep ks (fun e => by have e : w2.heap.size = T := e; omega)
    exact ⟨x.at_ 0, x.at_ 1, x.at_ 2, x.at_ 3, x.at_ 4, y.at_ 0, y.at_ 1, y.at_ 2⟩)
  have kd : Keep Nil W2 W2.drew := (Keep.refl Nil W2).drew
  obtain ⟨s0, s1, s2, s3, s4, s5, s6, s7⟩ := HS.out W2 (Keep.refl Nil W2)
  clear hft k2 k22 hbf hk02 hbx
  go_upto_region 3 with (fail)
  rw [← hW2]
  clear hW2
  go_cut [8] from 20 to 28 (fun v8 wd => OpSt W2 block fs v8 wd)
  case first =>
    go_region_held3 (fun V => V.cell? ⟨w.heap.size, 0, none⟩ = some (.int .i64 nn) ∧ V.cell? ⟨w.heap.size, 1, none⟩ = some (.slice A1 l1 c1) ∧ V.cell? ⟨w.heap.size, 2, none⟩ = some (.slice A2 l2 c2) ∧ V.cell? ⟨w.heap.size, 3, none⟩ = some (.int .i64 bb) ∧ V.cell? ⟨w.heap.size, 4, none⟩ = some (.int .i64 mm) ∧ V.cell? ⟨w2.heap.size, 0, none⟩ = some (.string ⟨#[114, 97, 119]⟩) ∧ V.cell? ⟨w2.heap.size, 1, none⟩ = some (.bool true) ∧ V.cell? ⟨w2.heap.size, 2, none⟩ = some (.slice Av lR cv))
      (first | exact HS.out _ (Keep.refl Nil W2) | exact HS.out _ kd | exact HS.out _ (kd.alloc _) | exact HS.out _ ((Keep.refl Nil W2).alloc _).drew | exact HS.out _ k4 | exact HS.out _ (k4.alloc _) | exact HS.out _ k5 | exact HS.out _ (k5.alloc _) | exact HS.out _ ((k5.alloc _).alloc _) | exact HS.out _ k6 | exact HS.out _ (k6.alloc _) | exact HSX.out _ _ _ _ k6 hT6)
      (first
        | (go_at_call 116
           refine (HFN.out _ (by first | exact HK2.out.then_ kd | exact HK2.out.then_ (kd.alloc _) | exact HK2.out.then_ ((Keep.refl Nil W2).alloc _).drew)).mono ?_
           rintro e w4 ⟨⟨C, cc, D, cd, rfl, hfa, k4a, hjC, hjD⟩⟩
           have k4 : Keep Nil W2 w4 := by first | exact kd.then_ k4a | exact (kd.alloc _).then_ k4a | exact ((Keep.refl Nil W2).alloc _).drew.then_ k4a
           first
             | (have b4 := ((Blk.new W2 28 #[.int .i64 0, .slice none 0 0]).drew).keep k4a (fun h => h)
                have hT4 : W2.heap.size ≤ W2.heap.size := Nat.le_refl _)
             | skip
           have HFA := Hid.intro_ hfa
           clear hjC hjD hfa)
        | (go_at_call 115
           refine (HFI.out C cc D cd _ (by first | exact HFA.out | exact HFA.out.nil ((Keep.refl Nil w4).alloc _))).mono ?_
           rintro e w5 ⟨Av5, cv5, rfl, hf5⟩
           have k5 : Keep Nil W2 w5 := by first | exact k4.then_ hf5.out.2 | exact (k4.alloc _).then_ hf5.out.2
           first
             | (have b5 := b4.keep hf5.out.2 (fun h => h)
                have hT5 := hT4)
             | (have b5 := (Blk.new w4 28 #[.int .i64 0, .slice none 0 0]).keep hf5.out.2 (fun h => h)
                have hT5 := k4.size)
             | skip
           have HF5 := Hid.intro_ (hf5.out.1.mono (H' := fun _ => True) (fun _ _ _ => trivial))
           have HR5 := Hid.intro_ (HFT.out.nil k5))
        | (go_at_call 56
           refine (HST.out _ _ (by first | exact fl_three HF5.out HR5.out rfl | exact fl_three (HF5.out.nil ((Keep.refl Nil w5).alloc _)) (HR5.out.nil ((Keep.refl Nil w5).alloc _)) (by simp) | exact (fl_three HF5.out HR5.out rfl).nil ((Keep.refl Nil _).alloc _))).mono ?_
           rintro e w6 ⟨v6, rfl, hs6, k6a⟩
           obtain ⟨u6, rfl, hf6⟩ := hs6.out
           obtain ⟨A6, c6, rfl⟩ : ∃ A c, u6 = .slice A 3 c := by obtain ⟨A, c, e⟩ := hf6.form; rw [HL3.out] at e; exact ⟨A, c, e⟩
           have k6 : Keep Nil W2 w6 := by first | exact (k5.alloc _).then_ k6a | exact ((k5.alloc _).alloc _).then_ k6a
           have HF6 := Hid.intro_ (hf6.mono (H' := fun _ => True) (fun _ _ _ => trivial))
           have HL6 := Hid.intro_ (And.intro k4.size k5.size)
           clear hs6 hf6
           first
             | (have b6 := b5.keep (((Keep.refl Nil w5).alloc _).then_ k6a) (fun h => h)
                have hT6 := hT5
                have z0 : w6.cell? ⟨_, 0, none⟩ = some (.int .i64 0) := b6.at_ 0
                have z1 : w6.cell? ⟨_, 1, none⟩ = some (.slice none 0 0) := b6.at_ 1
                have zf := b6.fr 0
                have zg := b6.fr 1)
             | (have b6 := (Blk.new w5 28 #[.int .i64 0, .slice none 0 0]).keep (((Keep.refl Nil _).alloc _).then_ k6a) (fun h => h)
                have hT6 := k5.size
                have z0 : w6.cell? ⟨_, 0, none⟩ = some (.int .i64 0) := b6.at_ 0
                have z1 : w6.cell? ⟨_, 1, none⟩ = some (.slice none 0 0) := b6.at_ 1
                have zf := b6.fr 0
                have zg := b6.fr 1)
             | (have b6 := (show Blk ((w5.alloc (.cells #[.string ⟨#[102]⟩, .bool true, .slice Av5 lF cv5, .string ⟨#[114, 97, 119]⟩, .bool true, .slice Av lR cv, .string ⟨#[104, 97, 108, 102]⟩, .bool false, .slice none 0 0] 55)).alloc (.cells #[.int .i64 0, .slice none 0 0] 28)) (w5.heap.size + 1) 28 #[.int .i64 0, .slice none 0 0] from Blk.new_at _ _ _ (by simp)).keep k6a (fun h => h)
                have hT6 : W2.heap.size ≤ w5.heap.size + 1 := Nat.le_succ_of_le k5.size
                have z0 : w6.cell? ⟨_, 0, none⟩ = some (.int .i64 0) := b6.at_ 0
                have z1 : w6.cell? ⟨_, 1, none⟩ = some (.slice none 0 0) := b6.at_ 1
                have zf := b6.fr 0
                have zg := b6.fr 1)
             | skip))
    all_goals go_wp2_with fail
    all_goals go_meet
    all_goals first | exact op_ahead k6 hT6 b6 HF6.out | exact op_behind k6 HF6.out
  obtain ⟨T, A, c, rfl, kT, bT, sT⟩ := hcut
  have t0 : wc.cell? ⟨T, 0, none⟩ = some (.int .i64 block) := bT.at_ 0
  have t1 : wc.cell? ⟨T, 1, none⟩ = some (.slice A 3 c) := bT.at_ 1
  have HMX := Hid.intro_ (HM.out _ _ wc sT)
  have HKT := Hid.intro_ kT
  clear bT sT s0 s1 s2 s3 s4 s5 s6 s7 kd HS HSX HM HST HFI HFN HFT HBF kT
  go_wp2_with fail
  refine HMX.out.mono ?_
  rintro e w7 ⟨d, R, rfl, hd, k7⟩
  have i4 : w7.cell? ⟨w.heap.size, 4, none⟩ = some (.int .i64 mm) := (HBX.out.keep (HKT.out.then_ k7) (fun h => h)).at_ 4
  obtain ⟨q1, q2, q3, q4⟩ := HQ.out
  obtain ⟨am, ham⟩ : ∃ am, am = Go.bits .and .i64 mm 65535 := ⟨_, rfl⟩
  have ham2 := and_few mm
  rw [← ham] at ham2
  have hand : Go.bits .and .i64 mm 65535 = am := ham.symm
  obtain ⟨v1, hv1⟩ : ∃ v : Int, v = (K : Int) + 1 := ⟨_, rfl⟩
  obtain ⟨v2, hv2⟩ : ∃ v : Int, v = (K : Int) := ⟨_, rfl⟩
  obtain ⟨v3, hv3⟩ : ∃ v : Int, v = 64 * (K : Int) := ⟨_, rfl⟩
  obtain ⟨lim, hlim⟩ : ∃ v : Int, v = v3 + am := ⟨_, rfl⟩
  have hq1 : (block : Int).tdiv 32 = v1 := by rw [Int.tdiv_eq_ediv_of_nonneg (by omega)]; omega
  have hq2 : (block : Int) / 32 = v1 := by omega
  have hs0 : wrap64 v1 = v1 := by unfold wrap64; omega
  have hs00 : IntKind.i64.wrap v1 = v1 := by rw [IntKind.wrap_i64]; omega
  have hs1 : wrap64 (v1 - 1) = v2 := by unfold wrap64; omega
  have hs2 : IntKind.i64.wrap (v1 - 1) = v2 := by rw [IntKind.wrap_i64]; omega
  have hs3 : wrap64 (64 * v2) = v3 := by unfold wrap64; omega
  have hs4 : IntKind.i64.wrap (64 * v2) = v3 := by rw [IntKind.wrap_i64]; omega
  have hs5 : wrap64 (v3 + am) = lim := by unfold wrap64; omega
  have hs6 : IntKind.i64.wrap (v3 + am) = lim := by rw [IntKind.wrap_i64]; omega
  have HLI := Hid.intro_ (show 64 * (K : Int) ≤ lim by omega)
  have HNW := Hid.intro_ (new_any lim w7 (by omega) (by omega))
  have HDK := Hid.intro_ hd
  have HK7 := Hid.intro_ k7
  clear hd k7 t0 t1 HMX ham ham2 q1 q2 q3 q4 hv1 hv2 hv3 hlim
  go_wp2_with fail
  refine HNW.out.mono ?_
  rintro e w8 ⟨p, lk, rfl, hp, lp, ll, k8⟩
  have HND := Hid.intro_ (newdesk_ok d p _ R _ w8 (HDK.out.nil k8) (by show ¬ fit (block : Int) = 0; rw [HQ.out.1]; have := HQ.out.2.1; omega))
  have HP8 := Hid.intro_ (And.intro hp (And.intro lp (And.intro ll k8)))
  clear hp lp ll k8 hand hq1 hq2 hs0 hs00 hs1 hs2 hs3 hs4 hs5 hs6 i4 HNW
  go_wp2_with fail
  refine HND.out.mono ?_
  rintro e w9 ⟨rfl, hk9, k9⟩
  have hk9' : Blk w9 w8.heap.size 242 #[.pointer (some ⟨d, 0, none⟩), .pointer (some ⟨p, 0, none⟩), .int .i64 (fit (block : Int)), .int .i64 1] := hk9
  have br := HR0.out.keep (((HK02.out.then_ HKT.out).then_ HK7.out).then_ (HP8.out.2.2.2.then_ k9)) (fun h => h)
  have r0 : w9.cell? ⟨w.heap.size + 1, 0, none⟩ = some (.pointer none) := br.at_ 0
  have r1 : w9.cell? ⟨w.heap.size + 1, 1, none⟩ = some (.pointer none) := br.at_ 1
  have r2 : w9.cell? ⟨w.heap.size + 1, 2, none⟩ = some (.pointer none) := br.at_ 2
  have f0 := br.fr 0
  have f1 := br.fr 1
  have f2 := br.fr 2
  have HBR := Hid.intro_ br
  have HD9 := Hid.intro_ hk9'
  have HK9 := Hid.intro_ k9
  clear br hk9 hk9' k9 HND
  go_wp2_with fail
  have hopen : OpenAt wc w9 d p lk w8.heap.size wc.heap.size w7.heap.size (block : Int) 1073741824 lim fs :=
    ⟨⟨R, HDK.out.nil (HP8.out.2.2.2.then_ HK9.out)⟩, HP8.out.1.keep HK9.out (fun h => h) (fun h => h), HD9.out, ⟨Nat.le_refl _, HP8.out.2.1, HP8.out.2.2.1, HP8.out.2.2.2.size, HP8.out.1.blk.lt, HP8.out.1.lock.lt⟩, HK7.out.then_ (HP8.out.2.2.2.then_ HK9.out)⟩
  have kwc : Keep Nil w wc := HK2.out.then_ HKT.out
  obtain ⟨hrm, hG⟩ := open_rm hopen (HE.out.1.keep kwc (fun _ _ h => h) (fun _ _ h => h)) (HE.out.2.1.keep kwc (fun h => h)) (HE.out.2.2.keep kwc (fun h => h)) HQ.out.1 HQ.out.2.1
  have hwl : w.heap.size + 1 < wc.heap.size := Nat.lt_of_lt_of_le HLT.out (HK02.out.then_ HKT.out).size
  have henv : Envs E w (fun _ => False) := ⟨⟨HE.out.1, fun _ _ h => h.elim, fun _ _ h => h.elim⟩, HE.out.2.1, HE.out.2.2, fun h => h.elim, fun h => h.elim⟩
  have hoff : Off E (fun _ => False) (w.heap.size + 1) := Off.new henv (fun _ h => h.elim) (by omega)
  obtain ⟨T4, hT4⟩ : ∃ T4, T4 = w.heap.size + 1 := ⟨_, rfl⟩
  rw [← hT4] at HBR hoff hwl ⊢
  obtain ⟨X, hX⟩ : ∃ X, X = ((w9.setCell ⟨T4, 0, none⟩ (.pointer (some ⟨d, 0, none⟩))).setCell ⟨T4, 1, none⟩ (.pointer (some ⟨p, 0, none⟩))).setCell ⟨T4, 2, none⟩ (.pointer (some ⟨w8.heap.size, 0, none⟩)) := ⟨_, rfl⟩
  rw [← hX]
  have bX : Blk X T4 126 #[.pointer (some ⟨d, 0, none⟩), .pointer (some ⟨p, 0, none⟩), .pointer (some ⟨w8.heap.size, 0, none⟩)] := by rw [hX]; exact ((HBR.out.set_ 0 _).set_ 1 _).set_ 2 _
  have kX : Keep (fun z => z = T4) w9 X := by rw [hX]; exact (((Keep.refl (fun z => z = T4) w9).setCell (p := ⟨T4, 0, none⟩) (fun _ => rfl) _).setCell (p := ⟨T4, 1, none⟩) (fun _ => rfl) _).setCell (p := ⟨T4, 2, none⟩) (fun _ => rfl) _
  have y0 : X.cell? ⟨T4, 0, none⟩ = some (.pointer (some ⟨d, 0, none⟩)) := bX.at_ 0
  have y1 : X.cell? ⟨T4, 1, none⟩ = some (.pointer (some ⟨p, 0, none⟩)) := bX.at_ 1
  have y2 : X.cell? ⟨T4, 2, none⟩ = some (.pointer (some ⟨w8.heap.size, 0, none⟩)) := bX.at_ 2
  have hrx := hrm.keep kX (fun z hz e => by have := hG z hz; have e : z = T4 := e; omega) ⟨⟨hrm.env.errs.errs, fun i hi e => (hoff.2.1 i hi).1 e, fun i hi e => (hoff.2.1 i hi).2 e⟩, hrm.env.halves, hrm.env.magic, fun e => hoff.2.2.1 (Eq.symm e), fun e => hoff.2.2.2 (Eq.symm e)⟩
  have hfin : OpPost E block K fs w (.returned (.tuple #[.agg #[.pointer (some ⟨d, 0, none⟩), .pointer (some ⟨p, 0, none⟩), .pointer (some ⟨w8.heap.size, 0, none⟩)], .bool true])) X :=
    ⟨d, p, lk, w8.heap.size, _, lim, rfl, hrx, HLI.out, fun z hz => by have := hG z hz; have := kwc.size; omega, (kwc.then_ (HK7.out.then_ (HP8.out.2.2.2.then_ HK9.out))).trans kX (fun z hz e => by have e : z = T4 := e; omega)⟩
  clear hX bX kX hrx hrm hG hopen hoff henv
  refine bodyPost_ret (v := .tuple #[.agg #[.pointer (some ⟨d, 0, none⟩), .pointer (some ⟨p, 0, none⟩), .pointer (some ⟨w8.heap.size, 0, none⟩)], .bool true]) (by simp [results, Tryz.results52, go_sem, y0, y1, y2]) rfl hfin
end Go.Proofs.YtadipinnbehhhaaGreatDoor
