/- NodesReads: the law's stray beside one more file. NodesReads: the plain facts of its start: the files, what the room answers of the tape. NodesReads: a room is quiet: on, no faults, never full. -/
import Derived.Test.YtadipinnbehhhaaGreatDoorReadsRowAR
namespace Go.Proofs.YtadipinnbehhhaaGreatDoor
open Go.RowKit

/-- A room's files: one more beside the stray. -/
def rdFs (F : AFile) (block : Nat) : List (ByteArray × AFile) := (nmF, F) :: strayFs block
theorem sortF_stray1 (F : AFile) (block : Nat) : sortF [(⟨#[122]⟩, ⟨true, blocksB 1 [strayRec] block⟩), (⟨#[111, 112, 101, 110]⟩, ⟨false, []⟩), (nmF, F)] = rdFs F block := by
  have hb : Op.bytesLess [111, 112, 101, 110] [122] = true := by decide
  have hb2 : Op.bytesLess [102] [122] = true := by decide
  have hb3 : Op.bytesLess [102] [111, 112, 101, 110] = true := by decide
  simp [sortF, ins, insR, insStep, strayFs, rdFs, nmF, hb, hb2, hb3]
structure StrayP1 (B : Nat) (F : AFile) (block : Nat) (w : World) (e : Ending) (w' : World) : Prop where mk ::
  out : ∃ A c, e = .returned (.agg #[.int .i64 block, .slice A 3 c]) ∧ StAt w' (fun b => B ≤ b) (.agg #[.int .i64 block, .slice A 3 c]) block (rdFs F block) ∧ Keep Nil w w'
/-- Two files in a row of their own. -/
theorem own_two {V : World} {B g : Nat} {cs : Array Value} (hg : B ≤ g) (h : Blk V g 55 cs) (hs : cs.size = 6) : V.ownsRow B 55 3 (.slice (some ⟨g, 0, none⟩) 2 2) 2 cs.toList := by
  refine ⟨by simp [hs], .inr ⟨g, 2, cs, rfl, hg, h, Nat.le_refl _, by simp [maxLen], by simp [hs], ?_⟩⟩
  exact List.take_of_length_le (by simp [hs])
theorem stray1_state (B block : Nat) (F : AFile) (V V3 : World) (Az : Option Addr) (cz g : Nat) (r s1 : Value)
    (hown : V.ownsRow B 55 3 (.slice (some ⟨g, 0, none⟩) 2 2) 2 (fileCells [(⟨#[122]⟩, ⟨true, blocksB 1 [strayRec] block⟩), (⟨#[111, 112, 101, 110]⟩, ⟨false, []⟩)] [.slice Az (blocksB 1 [strayRec] block).length cz, .slice none 0 0]))
    (hz : FsAt V (fun b => B ≤ b) (.slice Az (blocksB 1 [strayRec] block).length cz) (blocksB 1 [strayRec] block)) (hr : FsAt V (fun b => B ≤ b) r F.blocks)
    (ho3 : V3.ownsRow B 55 3 s1 3 (fileCells [(⟨#[122]⟩, ⟨true, blocksB 1 [strayRec] block⟩), (⟨#[111, 112, 101, 110]⟩, ⟨false, []⟩)] [.slice Az (blocksB 1 [strayRec] block).length cz, .slice none 0 0] ++ [.string nmF, .bool F.done, r]))
    (k : Keep (fun b => (Value.slice (some ⟨g, 0, none⟩) 2 2).ownBlock = some b) V V3) :
    Calls Tryz.prog 56 #[.int .i64 block, s1] V3 (StateRPost V3 (fun b => B ≤ b) block (rdFs F block)) := by
  have hp := OFl.push (f := (nmF, F)) (H := fun b => B ≤ b) (fun j r f hr hf => ?_) rfl hown hr ho3 k
  · have := rstate_any (fun b => B ≤ b) block s1 _ V3 (hp.fl (fun g hg => own_base ho3 hg)) (by simp)
    rw [show ([(⟨#[122]⟩, ⟨true, blocksB 1 [strayRec] block⟩), (⟨#[111, 112, 101, 110]⟩, ⟨false, []⟩)] : List (ByteArray × AFile)) ++ [(nmF, F)] = [(⟨#[122]⟩, ⟨true, blocksB 1 [strayRec] block⟩), (⟨#[111, 112, 101, 110]⟩, ⟨false, []⟩), (nmF, F)] from rfl, sortF_stray1] at this
    exact this
  · match j with
    | 0 => injection hr with hr; injection hf with hf; subst hr hf; exact hz
    | 1 => injection hr with hr; injection hf with hf; subst hr hf; exact (OFs.nil_ V 0 _).fs (fun g hg => by cases hg)
    | j + 2 => simp at hr
set_option maxRecDepth 100000 in
set_option maxHeartbeats 1000000 in
theorem stray1_any (B block : Nat) (F : AFile) (Af : Option Addr) (cf : Nat) (w : World) (hb : 64 ≤ block ∧ block ≤ 65536 ∧ block % 32 = 0) (hB : B ≤ w.heap.size) (hfl : FlAt w (fun b => B ≤ b) (.slice Af 1 cf) [(nmF, F)]) :
    Calls Tryz.prog 11 #[.int .i64 block, .slice Af 1 cf] w (StrayP1 B F block w) := by
  obtain ⟨⟨gf, of, r, rfl, p0, p1, p2, hrf, hro⟩⟩ : Nonempty (∃ gf of r, Af = some ⟨gf, of, none⟩ ∧ w.cell? ⟨gf, of, none⟩ = some (.string nmF) ∧ w.cell? ⟨gf, of + 1, none⟩ = some (.bool F.done) ∧ w.cell? ⟨gf, of + 2, none⟩ = some r ∧ FsAt w (fun b => B ≤ b) r F.blocks ∧ r.oneCell' = true) := by
    refine ⟨?_⟩
    obtain ⟨A, c, rs, e, hl, hr, hi, ht, hv⟩ := hfl.out
    injection e with e1 e2 e3
    subst e1 e3
    match rs, hl with
    | [r], _ =>
      obtain ⟨⟨g, o, sp⟩, rfl, c0⟩ := hr 0 (.string nmF) rfl
      obtain rfl : sp = none := (hi _ rfl).3
      obtain ⟨_, e, c1⟩ := hr 1 (.bool F.done) rfl; injection e with e; subst e
      obtain ⟨_, e, c2⟩ := hr 2 r rfl; injection e with e; subst e
      rw [add_at] at c0 c1 c2
      have hf := hv 0 r (nmF, F) rfl rfl
      obtain ⟨A2, c2', vs, e2, _⟩ := hf.out
      exact ⟨g, o, r, rfl, c0, c1, c2, hf, by rw [e2]; rfl⟩
  obtain ⟨W, hW⟩ : ∃ W, W = w.alloc (.cells #[.int .i64 0, .slice none 0 0] 28) := ⟨_, rfl⟩
  have kW : Keep Nil w W := by rw [hW]; exact (Keep.refl Nil w).alloc _
  have b0 : Blk W w.heap.size 28 #[.int .i64 0, .slice none 0 0] := by rw [hW]; exact Blk.new w _ _
  obtain ⟨i2, hi2, hz0, hz1, hz2⟩ := info_parts info_file
  have b1 := Blk.new W 111 #[.int .u64 3, .int .u64 1, .int .u64 4, .int .u64 1]
  have k1 : Keep Nil W (W.alloc (.cells #[.int .u64 3, .int .u64 1, .int .u64 4, .int .u64 1] 111)) := (Keep.refl Nil W).alloc _
  have hz : W.heap.size = w.heap.size + 1 := by rw [hW]; simp
  rw [hz] at b1
  have htp := Hid.intro_ (tape_any ⟨#[122]⟩ 1 block (some ⟨w.heap.size + 1, 0, none⟩) 1 [strayRec] (W.alloc (.cells #[.int .u64 3, .int .u64 1, .int .u64 4, .int .u64 1] 111)) (by omega) hb (by simp) (by
    intro j u hu
    refine ⟨_, rfl, ?_⟩
    rw [add_at, Nat.zero_add]
    have hj : j < 4 := by have := (List.getElem?_eq_some_iff.1 hu).1; simp [rcCells, R4.ws] at this; omega
    match j, hj with
    | 0, _ => injection hu with hu; subst hu; exact b1.at_ 0
    | 1, _ => injection hu with hu; subst hu; exact b1.at_ 1
    | 2, _ => injection hu with hu; subst hu; exact b1.at_ 2
    | 3, _ => injection hu with hu; subst hu; exact b1.at_ 3) (by intro a e; injection e with e; subst e; rfl) (by
    intro r hr
    simp at hr
    subst hr
    constructor <;> simp [strayRec]))
  have HRF := Hid.intro_ hrf
  have HP := Hid.intro_ (And.intro p0 (And.intro p1 p2))
  have HB0 := Hid.intro_ b0
  have KW := Hid.intro_ kW
  have K1 := Hid.intro_ k1
  have HBB := Hid.intro_ hB
  have HZ := Hid.intro_ hz
  clear b1 hrf p0 p1 p2 hfl b0 kW k1 hB
  go_enter Tryz.func11, Tryz.ntmps11
  go_wp2_with (first
    | (go_at_call 22; rw [← hW]; refine htp.out.mono ?_; rintro e w2 ⟨v, rfl, hfs, k2⟩
       obtain ⟨Av, cv, rfl⟩ : ∃ A c, v = .slice A (blocksB 1 [strayRec] block).length c := by obtain ⟨A, c, _, e, _⟩ := hfs.out; exact ⟨A, c, e⟩
       have KV : Hid (Keep Nil w ((w2.alloc (.cells #[.string ⟨#[122]⟩, .bool true, .slice Av (blocksB 1 [strayRec] block).length cv] 55)).alloc (.cells #[.string ⟨#[122]⟩, .bool true, .slice Av (blocksB 1 [strayRec] block).length cv, .string ⟨#[111, 112, 101, 110]⟩, .bool false, .slice none 0 0] 55))) := Hid.intro_ ((((KW.out.then_ K1.out).then_ k2).alloc _).alloc _)
       have B0V : Hid (Blk ((w2.alloc (.cells #[.string ⟨#[122]⟩, .bool true, .slice Av (blocksB 1 [strayRec] block).length cv] 55)).alloc (.cells #[.string ⟨#[122]⟩, .bool true, .slice Av (blocksB 1 [strayRec] block).length cv, .string ⟨#[111, 112, 101, 110]⟩, .bool false, .slice none 0 0] 55)) w.heap.size 28 #[.int .i64 0, .slice none 0 0]) := Hid.intro_ (HB0.out.keep (((K1.out.then_ k2).alloc _).alloc _) (fun h => h))
       have HSZ : Hid (w.heap.size < w2.heap.size) := Hid.intro_ (by have := (K1.out.then_ k2).size; have := HZ.out; omega)
       have HFZ : Hid (FsAt w2 (fun b => B ≤ b) (.slice Av (blocksB 1 [strayRec] block).length cv) (blocksB 1 [strayRec] block)) := Hid.intro_ (hfs.mono (fun b hb _ => by have := HBB.out; simp at hb; omega))
       have HOW := Hid.intro_ (own_two (B := B) (g := w2.heap.size + 1) (by have := HSZ.out; have := HBB.out; omega) (Blk.new_at (w2.alloc (.cells #[.string ⟨#[122]⟩, .bool true, .slice Av (blocksB 1 [strayRec] block).length cv] 55)) 55 #[.string ⟨#[122]⟩, .bool true, .slice Av (blocksB 1 [strayRec] block).length cv, .string ⟨#[111, 112, 101, 110]⟩, .bool false, .slice none 0 0] (by simp)) rfl)
       clear hfs k2)
    | (at_builtin; go_loud (
       refine wpList_append_own_at _ rfl (.tmp 13) (.tmp 14) 26 rfl B 55 i2 (.agg #[.string ⟨#[]⟩, .bool false, .slice none 0 0]) 3 48 Tryz.underlying26 hi2 hz0 hz1 hz2 rfl (by decide) (.slice (some ⟨w2.heap.size + 1, 0, none⟩) 2 2) 2 [.string ⟨#[122]⟩, .bool true, .slice Av (blocksB 1 [strayRec] block).length cv, .string ⟨#[111, 112, 101, 110]⟩, .bool false, .slice none 0 0] (by simp [Act.eval]) HOW.out ⟨gf, of, none⟩ 1 cf [.string nmF, .bool F.done, r] (by simp [Act.eval]) rfl (fun j u hu => by
         rw [add_at]
         have hk := KV.out
         match j, hu with
         | 0, hu => injection hu with hu; subst hu; exact cell_keep HP.out.1 hk (fun h => h)
         | 1, hu => injection hu with hu; subst hu; exact cell_keep HP.out.2.1 hk (fun h => h)
         | 2, hu => injection hu with hu; subst hu; exact cell_keep HP.out.2.2 hk (fun h => h)) (fun x hx => by simp only [List.mem_cons, List.not_mem_nil, or_false] at hx; rcases hx with rfl | rfl | rfl <;> first | rfl | exact hro) (by unfold maxLen; omega) (by omega) (by have := HSZ.out; have := HBB.out; simp; omega) ?_
       intro s1 w3 ho3 k3 _ hs1
       have HST := Hid.intro_ (stray1_state B block F _ w3 Av cv (w2.heap.size + 1) r s1 HOW.out (HFZ.out.nil (((Keep.refl Nil w2).alloc _).alloc _)) (HRF.out.nil KV.out) ho3 (Keep.of_grown k3))
       have KV3 : Hid (Keep Nil w w3) := Hid.intro_ (KV.out.trans (Keep.of_grown k3) (fun b hb e => by injection e with e; have e : w2.heap.size + 1 = b := e; have := HSZ.out; omega))
       have B03 : Hid (Blk w3 w.heap.size 28 #[.int .i64 0, .slice none 0 0]) := Hid.intro_ (B0V.out.keep (Keep.of_grown k3) (fun e => by injection e with e; have e : w2.heap.size + 1 = w.heap.size := e; have := HSZ.out; omega))
       clear ho3 k3 hs1))
    | (go_at_call 56; refine HST.out.mono ?_; rintro e w4 ⟨v4, rfl, hs4, k4⟩
       obtain ⟨u, rfl, hf4⟩ := hs4.out
       obtain ⟨A4, c4, rfl⟩ : ∃ A c, u = .slice A 3 c := by obtain ⟨A, c, e⟩ := hf4.form; exact ⟨A, c, e⟩
       have kk := Hid.intro_ (KV3.out.then_ k4)
       have b4 := B03.out.keep k4 (fun h => h)
       have z0 : w4.cell? ⟨w.heap.size, 0, none⟩ = some (.int .i64 0) := b4.at_ 0
       have z1 : w4.cell? ⟨w.heap.size, 1, none⟩ = some (.slice none 0 0) := b4.at_ 1
       have f0 := b4.fr 0
       have f1 := b4.fr 1
       have HF4 := Hid.intro_ hf4
       have hB3 : Hid (B ≤ w3.heap.size) := Hid.intro_ (by have := KV3.out.size; have := HBB.out; omega)
       clear hs4 hf4))
  refine bodyPost_ret (v := .agg #[.int .i64 block, .slice A4 3 c4]) (by simp [results, Tryz.results11, go_sem, z0, z1]) rfl ?_
  have ks := ((Keep.refl (fun b => b = w.heap.size) w4).setCell (p := ⟨w.heap.size, 0, none⟩) (fun _ => rfl) (.int .i64 block)).setCell (p := ⟨w.heap.size, 1, none⟩) (fun _ => rfl) (.slice A4 3 c4)
  refine ⟨A4, c4, rfl, ⟨_, rfl, (HF4.out.mono (fun b hb _ => ?_)).far (g := w.heap.size) ks (fun cs t fr hc => ?_)⟩, kk.out.trans ks (fun b hb e => by have : b = w.heap.size := e; omega)⟩
  · rcases hb with hb | hb
    · exact hb
    · have := hB3.out; omega
  · have hb := b4
    unfold Blk at hb
    rw [hc] at hb
    injection hb with hb
    injection hb with _ hb
    subst hb
    exact ⟨by decide, by decide, by decide⟩
end Go.Proofs.YtadipinnbehhhaaGreatDoor
namespace Go.Proofs.YtadipinnbehhhaaGreatDoor
open Go.RowKit

section
variable {block K : Nat} {how : Int} {L : List R4} {F : AFile}
theorem nmF_ok : okName nmF = true := by decide +kernel
theorem rd_names : (rdFs F block).map (·.1) = [nmF, nmOpen, nmZ] := rfl
theorem rd_ok : ∀ f ∈ rdFs F block, okName f.1 = true := by
  intro f hf
  rcases List.mem_cons.1 hf with rfl | hf
  · exact nmF_ok
  · exact stray_ok f hf
theorem rd_short : ∀ f ∈ rdFs F block, f.1.size ≤ 32 := by
  intro f hf
  rcases List.mem_cons.1 hf with rfl | hf
  · show nmF.size ≤ 32; decide +kernel
  · exact stray_short f hf
theorem rd_rises : rises ((rdFs F block).map (·.1)) := by
  show rises (nmF :: (strayFs block).map (·.1))
  unfold rises
  rw [List.pairwise_cons]
  refine ⟨fun b hb => ?_, stray_rises⟩
  rw [stray_names] at hb
  simp only [List.mem_cons, List.not_mem_nil, or_false] at hb
  rcases hb with rfl | rfl
  · decide +kernel
  · decide +kernel
theorem rdFile_blocks : (rdFile how L block).blocks = blocksB 1 L block ∨ (rdFile how L block).blocks = blocksB 2 L block := by
  unfold rdFile
  split
  · exact .inl rfl
  · split
    · exact .inr rfl
    · exact .inr rfl
theorem rd_blocks (hF : fit block = K) (h0 : 0 < K) : ∀ f ∈ rdFs (rdFile how L block) block, ∀ b ∈ f.2.blocks, b.length = block := by
  intro f hf b hb
  rcases List.mem_cons.1 hf with rfl | hf
  · have hb : b ∈ (rdFile how L block).blocks := hb
    rcases rdFile_blocks (how := how) (L := L) (block := block) with e | e
    · rw [e] at hb; exact blocksB_size 1 _ hF h0 b hb
    · rw [e] at hb; exact blocksB_size 2 _ hF h0 b hb
  · exact stray_blocks hF h0 f hf b hb
theorem rd_bytes : Bytes (rdFs (rdFile how L block) block) := by
  intro f hf b hb
  rcases List.mem_cons.1 hf with rfl | hf
  · have hb : b ∈ (rdFile how L block).blocks := hb
    rcases rdFile_blocks (how := how) (L := L) (block := block) with e | e
    · rw [e] at hb; exact blocksB_bytes 1 _ (by omega) b hb
    · rw [e] at hb; exact blocksB_bytes 2 _ (by omega) b hb
  · exact stray_bytes f hf b hb
theorem rd_len (hF : fit block = K) (h0 : 0 < K) : (rdFile how L block).blocks.length ≤ L.length := by
  have hb : 0 < block / 32 - 1 := by
    unfold fit at hF
    split at hF <;> omega
  rcases rdFile_blocks (how := how) (L := L) (block := block) with e | e
  · rw [e, blocksB_len]; exact nblk_le _ _ hb
  · rw [e, blocksB_len]; exact nblk_le _ _ hb
theorem rd_total (hF : fit block = K) (h0 : 0 < K) : total (rdFs (rdFile how L block) block) ≤ L.length + 1 := by
  have h1 := stray_total hF h0
  have h2 := rd_len (how := how) (L := L) hF h0
  unfold total at h1 ⊢
  show (rdFile how L block).blocks.length + ((strayFs block).map fun f => f.2.blocks.length).sum ≤ _
  omega
theorem rd_few (hF : fit block = K) (h0 : 0 < K) (hl : L.length ≤ 268435456) : Few (rdFs (rdFile how L block) block) := by
  refine ⟨by simp [rdFs, strayFs], fun f hf => ?_⟩
  have h1 := blocks_total hf
  have h2 := rd_total (how := how) (L := L) hF h0
  omega
def rdO (how : Int) (L : List R4) : Option (Nat × Nat × Nat) := if rdErr how L = 0 then endL L else none
def rdN (how : Int) (L : List R4) : Int := if rdErr how L = 0 then ansN (endL L) else rdErr how L
def rdLim (how : Int) (L : List R4) (K : Nat) : Int := if rdErr how L = 2 then (K : Int) - 1 else K
theorem blocksB_nil (kind : Nat) : blocksB kind [] block = [] := by
  have : nblk (block / 32 - 1) 0 = 0 := by
    by_cases hz : block / 32 - 1 = 0
    · rw [hz]; rfl
    · exact Nat.le_zero.1 (nblk_le _ 0 (by omega))
  apply List.eq_nil_of_length_eq_zero
  rw [blocksB_len]
  exact this
theorem rdFile_nil : rdFile 1 [] block = ⟨true, blocksB 2 [] block⟩ := by
  unfold rdFile
  rw [if_pos rfl, blocksB_nil, blocksB_nil]
theorem rd_fpos : fpos nmF (rdFs F block) = some (0, F) := by
  unfold rdFs fpos
  rw [if_pos rfl]
theorem rd_tapeOn {c : Cx} {kind : Nat} {fs : List (ByteArray × AFile)} (hp : fpos nmF fs = some (0, ⟨true, blocksB kind L c.block⟩)) (hk : 1 ≤ kind ∧ kind ≤ 255) (ho : ∀ r ∈ L, r.Ok) (hl : L.length ≤ 268435456) : TapeOn c fs nmF kind L :=
  ⟨nmF_ok, ⟨0, hp⟩, ho, by omega, hk⟩
/-- The answers, ahead of any read. -/
theorem rd_look {c : Cx} {s : RSt} (hc : Calm s.D c.block (rdFs (rdFile how L c.block) c.block)) (hS : s.S = PSt.new (rdLim how L c.K)) (ho : ∀ r ∈ L, r.Ok) (hl : L.length ≤ 268435456) :
    LookAns c s (rdName how) (rdO how L) (rdN how L) := by
  have hperr : ∀ n, s.D.perr n = s.D.ferr n := fun n => by unfold DSt.perr; rw [hc.on, if_neg (by simp)]
  have hcl : s.S.closed = false := by rw [hS]; rfl
  have hh : s.S.hand = 0 := by rw [hS]; rfl
  have hp : s.S.parts = 0 := by rw [hS]; rfl
  have hlm : s.S.limit = rdLim how L c.K := by rw [hS]; rfl
  by_cases h1 : how = 1
  · subst h1
    have en : rdName 1 = nmF := rfl
    by_cases hL : L = []
    · have ee : rdErr 1 L = 0 := by unfold rdErr; simp [hL]
      have eo : rdO 1 L = endL L := if_pos ee
      have eN : rdN 1 L = ansN (endL L) := if_pos ee
      have el : rdLim 1 L c.K = c.K := by unfold rdLim; rw [ee]; rfl
      rw [en, eo, eN]
      refine .tape _ L (rd_tapeOn (fs := rdFs (rdFile 1 L c.block) c.block) ?_ (by omega) ho hl) hc hcl (by omega) (by rw [hlm, el, hh, hp]; omega)
      rw [rd_fpos, hL, rdFile_nil]
    · have ee : rdErr 1 L = 32 := by unfold rdErr; simp [hL]
      have eo : rdO 1 L = none := if_neg (by rw [ee]; decide)
      have eN : rdN 1 L = 32 := by unfold rdN; rw [if_neg (by rw [ee]; decide), ee]
      have el : rdLim 1 L c.K = c.K := by unfold rdLim; rw [ee]; rfl
      rw [en, eo, eN]
      refine .kind _ 1 L (rd_tapeOn (fs := rdFs (rdFile 1 L c.block) c.block) ?_ (by omega) ho hl) hc (by decide) hL hcl (by omega) (by rw [hlm, el, hh, hp]; omega)
      rw [rd_fpos]
      rfl
  by_cases h2 : how = 2
  · subst h2
    have ee : rdErr 2 L = 15 := rfl
    have eo : rdO 2 L = none := if_neg (by rw [ee]; decide)
    have eN : rdN 2 L = 15 := by unfold rdN; rw [if_neg (by rw [ee]; decide), ee]
    rw [eo, eN]
    refine .bad 15 ?_ (by decide) ?_ ?_
    all_goals
      have er : s.D.readable nmF = (0, 15) := by
        have : s.D.length nmF = (((blocksB 2 L c.block).length : Int), false, 0) := by
          unfold DSt.length
          rw [hperr, show s.D.ferr nmF = none from by unfold DSt.ferr; rw [hc.files, rd_fpos, nmF_ok]; simp, hc.files, rd_fpos]
          rfl
        unfold DSt.readable
        rw [this]
        simp
      have en : rdName 2 = nmF := rfl
      rw [en]
    · unfold openR
      rw [if_neg (by omega), er, if_pos (by decide)]
    · rw [er]; decide
    · rw [er]; decide
  by_cases h3 : how = 3
  · subst h3
    have ee : rdErr 3 L = 12 := rfl
    have eo : rdO 3 L = none := if_neg (by rw [ee]; decide)
    have eN : rdN 3 L = 12 := by unfold rdN; rw [if_neg (by rw [ee]; decide), ee]
    rw [eo, eN]
    have en : rdName 3 = nmG := rfl
    have er : s.D.readable nmG = (0, 12) := by
      have hg : okName nmG = true := by decide +kernel
      have hf : fpos nmG (rdFs (rdFile 3 L c.block) c.block) = none := fpos_none (by
        rw [rd_names]
        intro h
        simp only [List.mem_cons, List.not_mem_nil, or_false] at h
        rcases h with h | h | h
        · exact absurd h (by decide +kernel)
        · exact absurd h (by decide +kernel)
        · exact absurd h (by decide +kernel))
      have : s.D.length nmG = (0, false, 12) := by
        unfold DSt.length
        rw [hperr, show s.D.ferr nmG = some 2 from by unfold DSt.ferr; rw [hc.files, hf, hg]; simp]
        rfl
      unfold DSt.readable
      rw [this]
      simp
    refine .bad 12 ?_ (by decide) ?_ ?_
    · rw [en]
      unfold openR
      rw [if_neg (by omega), er, if_pos (by decide)]
    · rw [en, er]; decide
    · rw [en, er]; decide
  by_cases h4 : how = 4
  · subst h4
    have ee : rdErr 4 L = 11 := rfl
    have eo : rdO 4 L = none := if_neg (by rw [ee]; decide)
    have eN : rdN 4 L = 11 := by unfold rdN; rw [if_neg (by rw [ee]; decide), ee]
    rw [eo, eN]
    have en : rdName 4 = nmFF := rfl
    have er : s.D.readable nmFF = (0, 11) := by
      have hg : okName nmFF = false := by decide +kernel
      have : s.D.length nmFF = (0, false, 11) := by
        unfold DSt.length
        rw [hperr, show s.D.ferr nmFF = some 1 from by unfold DSt.ferr; rw [hg]; simp]
        rfl
      unfold DSt.readable
      rw [this]
      simp
    refine .bad 11 ?_ (by decide) ?_ ?_
    · rw [en]
      unfold openR
      rw [if_neg (by omega), er, if_pos (by decide)]
    · rw [en, er]; decide
    · rw [en, er]; decide
  have en : rdName how = nmF := by unfold rdName; rw [if_neg h3, if_neg h4]
  have eF : rdFile how L c.block = ⟨true, blocksB 2 L c.block⟩ := by unfold rdFile; rw [if_neg h1, if_neg h2]
  have hT := rd_tapeOn (c := c) (fs := rdFs (rdFile how L c.block) c.block) (kind := 2) (L := L) (by rw [rd_fpos, eF]) (by omega) ho hl
  by_cases h5 : how = 5
  · have ee : rdErr how L = 2 := by unfold rdErr; rw [if_neg h1, if_neg h2, if_neg h3, if_neg h4, if_pos h5]
    have eo : rdO how L = none := if_neg (by rw [ee]; decide)
    have eN : rdN how L = 2 := by unfold rdN; rw [if_neg (by rw [ee]; decide), ee]
    have el : rdLim how L c.K = (c.K : Int) - 1 := by unfold rdLim; rw [ee]; rfl
    have er : s.D.readable nmF = (((blocksB 2 L c.block).length : Int), 0) := by
      have : s.D.length nmF = (((blocksB 2 L c.block).length : Int), true, 0) := by
        unfold DSt.length
        rw [hperr, show s.D.ferr nmF = none from by unfold DSt.ferr; rw [hc.files, rd_fpos, nmF_ok]; simp, hc.files, rd_fpos, eF]
      unfold DSt.readable
      rw [this]
      simp
    have hbl : (blocksB 2 L c.block).length ≤ 1099511627776 := by
      rw [blocksB_len]
      unfold nblk
      have : (L.length + (c.block / 32 - 1) - 1) / (c.block / 32 - 1) ≤ L.length + (c.block / 32 - 1) - 1 := Nat.div_le_self _ _
      by_cases hz : c.block / 32 - 1 = 0
      · rw [hz, Nat.div_zero]; omega
      · have : (L.length + (c.block / 32 - 1) - 1) / (c.block / 32 - 1) ≤ L.length := by
          have := nblk_le (c.block / 32 - 1) L.length (by omega)
          unfold nblk at this
          exact this
        omega
    rw [eo, eN]
    refine .bad 2 ?_ (by decide) ?_ ?_
    · rw [en]
      unfold openR
      rw [if_neg (by omega), er, if_neg (by simp), if_pos (by unfold PSt.frees; rw [hcl, hlm, el, hh, hp, if_neg (by simp)]; omega)]
    · rw [en, er]; simp
    · rw [en, er]; show ((blocksB 2 L c.block).length : Int) ≤ 1099511627776; omega
  · have ee : rdErr how L = 0 := by unfold rdErr; rw [if_neg h1, if_neg h2, if_neg h3, if_neg h4, if_neg h5]
    have eo : rdO how L = endL L := if_pos ee
    have eN : rdN how L = ansN (endL L) := if_pos ee
    have el : rdLim how L c.K = c.K := by unfold rdLim; rw [ee]; rfl
    rw [en, eo, eN]
    exact .tape _ L hT hc hcl (by omega) (by rw [hlm, el, hh, hp]; omega)
/-- The tape that is read. -/
theorem rd_tape {c : Cx} (ee : rdErr how L = 0) (ho : ∀ r ∈ L, r.Ok) (hl : L.length ≤ 268435456) : rdName how = nmF ∧ TapeOn c (rdFs (rdFile how L c.block) c.block) nmF 2 L := by
  by_cases h1 : how = 1
  · subst h1
    have hL : L = [] := by
      by_cases hL : L = []
      · exact hL
      · exfalso
        have : rdErr 1 L = 32 := by unfold rdErr; simp [hL]
        rw [this] at ee
        exact absurd ee (by decide)
    refine ⟨rfl, rd_tapeOn ?_ (by omega) ho hl⟩
    rw [rd_fpos, hL, rdFile_nil]
  have h2 : ¬ how = 2 := fun e => by rw [e] at ee; simp [rdErr] at ee
  have h3 : ¬ how = 3 := fun e => by rw [e] at ee; simp [rdErr] at ee
  have h4 : ¬ how = 4 := fun e => by rw [e] at ee; simp [rdErr] at ee
  refine ⟨by unfold rdName; rw [if_neg h3, if_neg h4], rd_tapeOn ?_ (by omega) ho hl⟩
  rw [rd_fpos]
  unfold rdFile
  rw [if_neg h1, if_neg h2]
end
end Go.Proofs.YtadipinnbehhhaaGreatDoor
namespace Go.Proofs.YtadipinnbehhhaaGreatDoor
open Go.RowKit

structure QuietD (D : DSt) : Prop where
  on : D.on = true
  faults : D.faults = 0
  full : D.full = 0
theorem mount_quiet (block blocks : Int) (fs : List (ByteArray × AFile)) : QuietD (mountD block blocks fs) := ⟨rfl, rfl, rfl⟩
theorem QuietD.readsN {D : DSt} (h : QuietD D) : ∀ n, QuietD (D.readsN n)
  | 0 => h
  | n + 1 => ⟨(h.readsN n).on, (h.readsN n).faults, (h.readsN n).full⟩
set_option maxRecDepth 100000 in
set_option maxHeartbeats 1000000 in
theorem counts_any (d : Nat) (D : DSt) (R : DRep) (F : Nat → Prop) (w : World) (h : DiskAt w F d D R) :
    Calls Tryz.prog 37 #[.pointer (some ⟨d, 0, none⟩)] w fun e w' => e = .returned (.agg #[.int .i64 D.calls, .int .i64 D.reads, .int .i64 D.appends, .int .i64 D.faults, .int .i64 D.full, .int .i64 D.used, .int .i64 D.most]) ∧ Keep Nil w w' := by
  obtain ⟨W, hW⟩ : ∃ W, W = w.alloc (.cells #[.int .i64 0, .int .i64 0, .int .i64 0, .int .i64 0, .int .i64 0, .int .i64 0, .int .i64 0] 94) := ⟨_, rfl⟩
  have kW : Keep Nil w W := by rw [hW]; exact (Keep.refl Nil w).alloc _
  have bW : Blk W w.heap.size 94 #[.int .i64 0, .int .i64 0, .int .i64 0, .int .i64 0, .int .i64 0, .int .i64 0, .int .i64 0] := by rw [hW]; exact Blk.new w _ _
  have hb := h.blk.keep kW (fun h => h)
  have c5 : W.cell? ⟨d, 5, none⟩ = some (.int .i64 D.calls) := hb.at_ 5
  have c6 : W.cell? ⟨d, 6, none⟩ = some (.int .i64 D.reads) := hb.at_ 6
  have c7 : W.cell? ⟨d, 7, none⟩ = some (.int .i64 D.appends) := hb.at_ 7
  have c8 : W.cell? ⟨d, 8, none⟩ = some (.int .i64 D.faults) := hb.at_ 8
  have c9 : W.cell? ⟨d, 9, none⟩ = some (.int .i64 D.full) := hb.at_ 9
  have c10 : W.cell? ⟨d, 10, none⟩ = some (.int .i64 D.used) := hb.at_ 10
  have c11 : W.cell? ⟨d, 11, none⟩ = some (.int .i64 D.most) := hb.at_ 11
  have z0 : W.cell? ⟨w.heap.size, 0, none⟩ = some (.int .i64 0) := bW.at_ 0
  have z1 : W.cell? ⟨w.heap.size, 1, none⟩ = some (.int .i64 0) := bW.at_ 1
  have z2 : W.cell? ⟨w.heap.size, 2, none⟩ = some (.int .i64 0) := bW.at_ 2
  have z3 : W.cell? ⟨w.heap.size, 3, none⟩ = some (.int .i64 0) := bW.at_ 3
  have z4 : W.cell? ⟨w.heap.size, 4, none⟩ = some (.int .i64 0) := bW.at_ 4
  have z5 : W.cell? ⟨w.heap.size, 5, none⟩ = some (.int .i64 0) := bW.at_ 5
  have z6 : W.cell? ⟨w.heap.size, 6, none⟩ = some (.int .i64 0) := bW.at_ 6
  have g0 := bW.fr 0
  have g1 := bW.fr 1
  have g2 := bW.fr 2
  have g3 := bW.fr 3
  have g4 := bW.fr 4
  have g5 := bW.fr 5
  have g6 := bW.fr 6
  have HBW := Hid.intro_ bW
  have KW := Hid.intro_ kW
  have hne : ¬ d = w.heap.size := by have := h.blk.lt; omega
  have hne2 : ¬ w.heap.size = d := by omega
  clear kW bW hb h
  go_enter Tryz.func37, Tryz.ntmps37
  go_upto_region 1 with (fail)
  rw [← hW]
  clear hW
  go_wp2_with fail
  generalize hX : ((((((W.setCell ⟨w.heap.size, 0, none⟩ (.int .i64 D.calls)).setCell ⟨w.heap.size, 1, none⟩ (.int .i64 D.reads)).setCell ⟨w.heap.size, 2, none⟩ (.int .i64 D.appends)).setCell ⟨w.heap.size, 3, none⟩ (.int .i64 D.faults)).setCell ⟨w.heap.size, 4, none⟩ (.int .i64 D.full)).setCell ⟨w.heap.size, 5, none⟩ (.int .i64 D.used)).setCell ⟨w.heap.size, 6, none⟩ (.int .i64 D.most) = X at *
  have hb1 : Blk _ w.heap.size 94 #[.int .i64 D.calls, .int .i64 0, .int .i64 0, .int .i64 0, .int .i64 0, .int .i64 0, .int .i64 0] := HBW.out.set_ 0 (.int .i64 D.calls)
  have hb2 : Blk _ w.heap.size 94 #[.int .i64 D.calls, .int .i64 D.reads, .int .i64 0, .int .i64 0, .int .i64 0, .int .i64 0, .int .i64 0] := hb1.set_ 1 (.int .i64 D.reads)
  have hb3 : Blk _ w.heap.size 94 #[.int .i64 D.calls, .int .i64 D.reads, .int .i64 D.appends, .int .i64 0, .int .i64 0, .int .i64 0, .int .i64 0] := hb2.set_ 2 (.int .i64 D.appends)
  have hb4 : Blk _ w.heap.size 94 #[.int .i64 D.calls, .int .i64 D.reads, .int .i64 D.appends, .int .i64 D.faults, .int .i64 0, .int .i64 0, .int .i64 0] := hb3.set_ 3 (.int .i64 D.faults)
  have hb5 : Blk _ w.heap.size 94 #[.int .i64 D.calls, .int .i64 D.reads, .int .i64 D.appends, .int .i64 D.faults, .int .i64 D.full, .int .i64 0, .int .i64 0] := hb4.set_ 4 (.int .i64 D.full)
  have hb6 : Blk _ w.heap.size 94 #[.int .i64 D.calls, .int .i64 D.reads, .int .i64 D.appends, .int .i64 D.faults, .int .i64 D.full, .int .i64 D.used, .int .i64 0] := hb5.set_ 5 (.int .i64 D.used)
  have hb7 : Blk _ w.heap.size 94 #[.int .i64 D.calls, .int .i64 D.reads, .int .i64 D.appends, .int .i64 D.faults, .int .i64 D.full, .int .i64 D.used, .int .i64 D.most] := hb6.set_ 6 (.int .i64 D.most)
  rw [hX] at hb7
  have y0 : X.cell? ⟨w.heap.size, 0, none⟩ = some (.int .i64 D.calls) := hb7.at_ 0
  have y1 : X.cell? ⟨w.heap.size, 1, none⟩ = some (.int .i64 D.reads) := hb7.at_ 1
  have y2 : X.cell? ⟨w.heap.size, 2, none⟩ = some (.int .i64 D.appends) := hb7.at_ 2
  have y3 : X.cell? ⟨w.heap.size, 3, none⟩ = some (.int .i64 D.faults) := hb7.at_ 3
  have y4 : X.cell? ⟨w.heap.size, 4, none⟩ = some (.int .i64 D.full) := hb7.at_ 4
  have y5 : X.cell? ⟨w.heap.size, 5, none⟩ = some (.int .i64 D.used) := hb7.at_ 5
  have y6 : X.cell? ⟨w.heap.size, 6, none⟩ = some (.int .i64 D.most) := hb7.at_ 6
  have kX : Keep (fun z => z = w.heap.size) W X := by
    rw [← hX]
    exact (((((((Keep.refl (fun z => z = w.heap.size) W).setCell (p := ⟨w.heap.size, 0, none⟩) (fun _ => rfl) _).setCell (p := ⟨w.heap.size, 1, none⟩) (fun _ => rfl) _).setCell (p := ⟨w.heap.size, 2, none⟩) (fun _ => rfl) _).setCell (p := ⟨w.heap.size, 3, none⟩) (fun _ => rfl) _).setCell (p := ⟨w.heap.size, 4, none⟩) (fun _ => rfl) _).setCell (p := ⟨w.heap.size, 5, none⟩) (fun _ => rfl) _).setCell (p := ⟨w.heap.size, 6, none⟩) (fun _ => rfl) _
  refine bodyPost_ret (v := .agg #[.int .i64 D.calls, .int .i64 D.reads, .int .i64 D.appends, .int .i64 D.faults, .int .i64 D.full, .int .i64 D.used, .int .i64 D.most]) (by simp [results, Tryz.results37, go_sem, y0, y1, y2, y3, y4, y5, y6]) rfl ⟨rfl, KW.out.trans kX (fun z hz e => by have e : z = w.heap.size := e; omega)⟩
set_option maxRecDepth 100000 in
set_option maxHeartbeats 1000000 in
/-- A room that is quiet. -/
theorem quiet_rm {c : Cx} {w : World} {G : Nat → Prop} {s : RSt} {v : Value} (h : RmAt c w G s) (hq : QuietD s.D) :
    Calls Tryz.prog 32 #[.agg #[.pointer (some ⟨c.d, 0, none⟩), .pointer (some ⟨c.p, 0, none⟩), .pointer (some ⟨c.k, 0, none⟩), .int .i64 c.block, v]] w fun e w' => e = .returned (.bool true) ∧ Keep Nil w w' := by
  obtain ⟨F, rfl, hd⟩ := h.out
  obtain ⟨R, hD⟩ := hd.disk
  have kB := (Keep.refl Nil w).alloc (.cells #[.pointer (some ⟨c.d, 0, none⟩), .pointer (some ⟨c.p, 0, none⟩), .pointer (some ⟨c.k, 0, none⟩), .int .i64 c.block, v] 35)
  have hdlt := hD.blk.lt
  have h0 : ∀ W, Keep Nil w W → W.cell? ⟨c.d, 0, none⟩ = some (.bool true) := fun W k => by
    have := (hD.blk.keep k (fun h => h)).at_ 0
    rw [← hq.on]
    exact this
  have hcnt : ∀ W, Keep Nil w W → Calls Tryz.prog 37 #[.pointer (some ⟨c.d, 0, none⟩)] W fun e w' => e = .returned (.agg #[.int .i64 s.D.calls, .int .i64 s.D.reads, .int .i64 s.D.appends, .int .i64 0, .int .i64 0, .int .i64 s.D.used, .int .i64 s.D.most]) ∧ Keep Nil W w' := fun W k => by
    have := counts_any c.d s.D R F W (hD.nil k)
    rw [hq.faults, hq.full] at this
    exact this
  have hon : ∀ W, Keep Nil w W → Calls Tryz.prog 86 #[.pointer (some ⟨c.d, 0, none⟩)] W fun e w' => e = .returned (.bool true) ∧ w' = W := fun W k => by
    have := on_any c.d s.D R F W (hD.nil k)
    rw [hq.on] at this
    exact this
  have HCN := Hid.intro_ hcnt
  have HON := Hid.intro_ hon
  have bR := Blk.new w 35 #[.pointer (some ⟨c.d, 0, none⟩), .pointer (some ⟨c.p, 0, none⟩), .pointer (some ⟨c.k, 0, none⟩), .int .i64 c.block, v]
  have HBR := Hid.intro_ bR
  have KB := Hid.intro_ kB
  clear h hd hD hq h0 hcnt hon kB bR hdlt
  go_enter Tryz.func32, Tryz.ntmps32
  go_wp2_with fail
  refine (HCN.out _ KB.out).mono ?_
  rintro e w1 ⟨rfl, k1⟩
  have b1 := HBR.out.keep k1 (fun h => h)
  have r0 : w1.cell? ⟨w.heap.size, 0, none⟩ = some (.pointer (some ⟨c.d, 0, none⟩)) := b1.at_ 0
  have e0 := World.new_ne w1 _ r0
  simp only at e0
  have hlt := b1.lt
  have K1 := Hid.intro_ (KB.out.then_ k1)
  clear k1 b1
  go_wp2_with (first | (go_at_call 86; refine (HON.out _ (K1.out.alloc _)).mono ?_; rintro e w2 ⟨rfl, hw2⟩; obtain rfl := hw2.symm) | fail)
  go_ret
  exact ⟨rfl, K1.out.alloc _⟩
end Go.Proofs.YtadipinnbehhhaaGreatDoor
