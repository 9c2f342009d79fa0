/- NewDesk, K, the law's Open: a room where all is well. The law's Kept: the room's disk holds the state, and the purse is empty. The law's stray: the state that a room is opened at. The reference's read: the number that lies low byte first. The reference's head at a block that Encode made: true. The reference's Decode at a block that Encode made. The reference's Decode at a block that Encode made: the walk. The references' Records at the blocks that Blocks makes. Pointers to nodes: taken apart and put together, by the program and by the reference. -/
import Derived.OwnWalk
import Derived.Laws.Bits64
import Derived.Laws.Bits64b
import Derived.Test.YtadipinnbehhhaaGreatDoorBuildsRowAK
import Derived.Test.YtadipinnbehhhaaGreatDoorBuildsRowAA
namespace Go.Proofs.YtadipinnbehhhaaGreatDoor
open Go.RowKit

theorem newdesk_ok (d p : Nat) (D : DSt) (R : DRep) (F : Nat → Prop) (w : World) (h : DiskAt w F d D R) (hK : ¬ fit D.block = 0) :
    Calls Tryz.prog 60 #[.pointer (some ⟨d, 0, none⟩), .pointer (some ⟨p, 0, none⟩)] w fun e w' =>
      e = .returned (.tuple #[.pointer (some ⟨w.heap.size, 0, none⟩), .int .i64 0]) ∧ Blk w' w.heap.size 242 #[.pointer (some ⟨d, 0, none⟩), .pointer (some ⟨p, 0, none⟩), .int .i64 (fit D.block), .int .i64 1] ∧ Keep Nil w w' := by
  have hb := Hid.intro_ (block_any d D R F w h)
  obtain ⟨K, hKK⟩ : ∃ K, K = fit D.block := ⟨_, rfl⟩
  have hf := Hid.intro_ (fun w => fit_any D.block w)
  rw [← hKK] at hf hK ⊢
  clear hKK h
  go_enter Tryz.func60, Tryz.ntmps60
  go_wp2_with (first
    | (go_at_call 123; refine hb.out.mono ?_; rintro e w2 ⟨rfl, hw2⟩; obtain rfl := hw2.symm)
    | (go_at_call 122; refine (hf.out _).mono ?_; rintro e w2 ⟨rfl, hw2⟩; obtain rfl := hw2.symm))
  go_ret2
  exact ⟨rfl, Blk.new w _ _, (Keep.refl Nil w).alloc _⟩

theorem k_any (k : Nat) (a b : Value) (K n : Int) (w : World) (h : Blk w k 242 #[a, b, .int .i64 K, .int .i64 n]) :
    Calls Tryz.prog 61 #[.pointer (some ⟨k, 0, none⟩)] w fun e w' => e = .returned (.int .i64 K) ∧ w' = w := by
  have c2 : w.cell? ⟨k, 2, none⟩ = some (.int .i64 K) := h.at_ 2
  go_enter Tryz.func61, Tryz.ntmps61
  go_wp2
  go_ret
  exact ⟨rfl, rfl⟩

/-- What Open leaves. -/
structure OpenAt (w w' : World) (d p lk k m0 m : Nat) (block blocks limit : Int) (fs : List (ByteArray × AFile)) : Prop where mk ::
  disk : ∃ R, DiskAt w' (fun b => m0 ≤ b ∧ b < m) d (mountD block blocks fs) R
  purse : PurseAt w' p lk none (PSt.new limit)
  desk : Blk w' k 242 #[.pointer (some ⟨d, 0, none⟩), .pointer (some ⟨p, 0, none⟩), .int .i64 (fit block), .int .i64 1]
  lt : w.heap.size ≤ m0 ∧ m ≤ p ∧ m ≤ lk ∧ m ≤ k ∧ p < k ∧ lk < k
  keep : Keep Nil w w'
def OpenPost (w : World) (v : Value) (block blocks limit : Int) (fs : List (ByteArray × AFile)) (e : Ending) (w' : World) : Prop :=
  ∃ d p lk k m0 m, e = .returned (.tuple #[.agg #[.pointer (some ⟨d, 0, none⟩), .pointer (some ⟨p, 0, none⟩), .pointer (some ⟨k, 0, none⟩), .int .i64 block, v], .bool true]) ∧ OpenAt w w' d p lk k m0 m block blocks limit fs

set_option maxRecDepth 100000 in
set_option maxHeartbeats 2000000 in
theorem open_ok (H : Nat → Prop) (v : Value) (block blocks limit : Int) (fs : List (ByteArray × AFile)) (w : World) (h : StAt w H (.agg #[.int .i64 block, v]) block fs) (h1 : 64 ≤ block) (h2 : block ≤ 65536) (h3 : block % 32 = 0) (h4 : 0 ≤ blocks) (h5 : blocks ≤ 1099511627776)
    (hm0 : 0 ≤ limit) (hm1 : limit ≤ 9223372036854775807) (hn : ∀ f ∈ fs, okName f.1 = true) (hb : ∀ f ∈ fs, ∀ b ∈ f.2.blocks, (b.length : Int) = block) (h8 : Bytes fs) (hrise : rises (fs.map (·.1))) (ht : (total fs : Int) ≤ blocks) (hlen : Few fs) (hK : ¬ fit block = 0) :
    Calls Tryz.prog 12 #[.agg #[.int .i64 block, v], .int .i64 blocks, .int .i64 limit, .slice none 0 0] w (OpenPost w v block blocks limit fs) := by
  obtain ⟨u, e0, hfl⟩ := h.out
  injection e0 with e0
  injection e0 with e0
  obtain rfl : v = u := by injection e0 with _ e0; injection e0
  obtain ⟨A, c, rfl⟩ := hfl.form
  obtain ⟨W, hW⟩ : ∃ W, W = (w.alloc (.cells #[.int .i64 block, .slice A fs.length c] 28)).alloc (.cells #[.pointer none, .pointer none, .pointer none, .int .i64 0, .slice none 0 0] 35) := ⟨_, rfl⟩
  have kW : Keep Nil w W := by rw [hW]; exact ((Keep.refl Nil w).alloc _).alloc _
  have hcp := Hid.intro_ (copy_any H _ block fs W.drew (h.nil kW.drew) h8 hlen)
  have b1 : Blk W w.heap.size 28 #[.int .i64 block, .slice A fs.length c] := by rw [hW]; exact (Blk.new w _ _).alloc _
  have b2 : Blk W (w.heap.size + 1) 35 #[.pointer none, .pointer none, .pointer none, .int .i64 0, .slice none 0 0] := by rw [hW]; exact Blk.new_at _ _ _ (by simp)
  have hmt := Hid.intro_ (fun (H : Nat → Prop) (v : Value) (wx : World) (hs : StAt wx H v block fs) => mount_ok H v block blocks fs wx hs h1 h2 h3 h4 h5 hn hb h8 hrise ht hlen.1)
  have y0 : W.cell? ⟨w.heap.size, 0, none⟩ = some (.int .i64 block) := b1.at_ 0
  have y1 : W.cell? ⟨w.heap.size, 1, none⟩ = some (.slice A fs.length c) := b1.at_ 1
  have q1 : (fit block != fit block) = false := by simp
  have hbk : (mountD block blocks fs).block = block := rfl
  clear h hfl hn hb h8 hrise ht e0
  go_enter Tryz.func12, Tryz.ntmps12
  go_wp2_with fail
  rw [← hW]
  have kW2 := Hid.intro_ kW
  clear hW kW
  go_region_held3 (fun w' => w'.cell? ⟨w.heap.size, 0, none⟩ = some (.int .i64 block) ∧ w'.cell? ⟨w.heap.size, 1, none⟩ = some (.slice A fs.length c))
    (first | exact ⟨y0, y1⟩ | exact ⟨cell_keep (w := W.drew) y0 k1 (fun h => h), cell_keep (w := W.drew) y1 k1 (fun h => h)⟩ | exact ⟨cell_keep (cell_keep (w := W.drew) y0 k1 (fun h => h)) k2 (fun h => h), cell_keep (cell_keep (w := W.drew) y1 k1 (fun h => h)) k2 (fun h => h)⟩)
    (first
      | (go_at_call 58; refine hcp.out.mono ?_; rintro e w1 ⟨v1, rfl, hs1, k1⟩
         have HS1 := Hid.intro_ hs1
         clear hs1)
      | (go_at_call 57; refine (hmt.out _ _ _ HS1.out).mono ?_; rintro e w2 ⟨d, R, rfl, hd, k2⟩
         have HD := Hid.intro_ hd
         clear hd))
  have hnew := Hid.intro_ (new_any limit w2 hm0 hm1)
  go_wp2_with (first
    | (go_at_call 59; refine hnew.out.mono ?_; rintro e w3 ⟨p, lk, rfl, hp, lp, ll, k3⟩
       have hnd := Hid.intro_ (newdesk_ok d p _ R _ w3 (HD.out.nil k3) hK))
    | (go_at_call 60; refine hnd.out.mono ?_; rintro e w4 ⟨rfl, hk4, k4⟩))
  have kk4 : Keep Nil W w4 := (((Keep.refl Nil W).drew.then_ k1).then_ k2).then_ (k3.then_ k4)
  have z0 := cell_keep y0 kk4 (fun h => h)
  have z1 := cell_keep y1 kk4 (fun h => h)
  rw [hbk] at hk4
  have HK4 := Hid.intro_ hk4
  have hka := Hid.intro_ (fun n => k_any w3.heap.size _ _ (fit block) 1 (w4.drewN n) (Blk.drewN hk4 _))
  have hra := Hid.intro_ (fun w => rfit_any block w)
  have HP := Hid.intro_ hp
  clear hk4 hp
  go_quiet ((first
    | (go_at_call 61; exact Calls.quiet_of_same (hka.out _))
    | (go_at_call 10; exact Calls.quiet_of_same (hra.out _))))
  obtain ⟨w5, k5, hw5⟩ : ∃ wa, Keep Nil w4 wa ∧ wa = w4.drewN nq := ⟨_, (Keep.refl Nil w4).drewN _, rfl⟩
  rw [← hw5]
  clear hw5
  have x0 := cell_keep z0 k5 (fun h => h)
  have x1 := cell_keep z1 k5 (fun h => h)
  have k15 : Keep Nil w1 w5 := ((k2.then_ k3).then_ k4).then_ k5
  have kk5 : Keep Nil W w5 := kk4.then_ k5
  have b5 := b2.keep kk5 (fun h => h)
  have c0 : w5.cell? ⟨w.heap.size + 1, 0, none⟩ = some (.pointer none) := b5.at_ 0
  have c1 : w5.cell? ⟨w.heap.size + 1, 1, none⟩ = some (.pointer none) := b5.at_ 1
  have c2 : w5.cell? ⟨w.heap.size + 1, 2, none⟩ = some (.pointer none) := b5.at_ 2
  have c3 : w5.cell? ⟨w.heap.size + 1, 3, none⟩ = some (.int .i64 0) := b5.at_ 3
  have c4 : w5.cell? ⟨w.heap.size + 1, 4, none⟩ = some (.slice none 0 0) := b5.at_ 4
  have f0 := b5.fr 0
  have f1 := b5.fr 1
  have f2 := b5.fr 2
  have f3 := b5.fr 3
  have f4 := b5.fr 4
  have lw2 := b2.lt
  go_wp2
  refine bodyPost_ret (v := .tuple #[.agg #[.pointer (some ⟨d, 0, none⟩), .pointer (some ⟨p, 0, none⟩), .pointer (some ⟨w3.heap.size, 0, none⟩), .int .i64 block, .slice A fs.length c], .bool true]) (by simp [results, Tryz.results12, go_sem, c0, c1, c2, c3, c4]) rfl ?_
  have ks := (((((Keep.refl (fun b => b = w.heap.size + 1) w5).setCell (p := ⟨w.heap.size + 1, 0, none⟩) (fun _ => rfl) (.pointer (some ⟨d, 0, none⟩))).setCell (p := ⟨w.heap.size + 1, 1, none⟩) (fun _ => rfl) (.pointer (some ⟨p, 0, none⟩))).setCell (p := ⟨w.heap.size + 1, 2, none⟩) (fun _ => rfl) (.pointer (some ⟨w3.heap.size, 0, none⟩))).setCell (p := ⟨w.heap.size + 1, 3, none⟩) (fun _ => rfl) (.int .i64 block)).setCell (p := ⟨w.heap.size + 1, 4, none⟩) (fun _ => rfl) (.slice A fs.length c)
  have lk1 : W.heap.size ≤ w1.heap.size := k1.size
  have lk2 := k2.size
  have lk3 := k3.size
  have k25 : Keep Nil w2 w5 := (k3.then_ k4).then_ k5
  have hne := HP.out.ne
  refine ⟨d, p, lk, w3.heap.size, w1.heap.size, w2.heap.size, rfl, ⟨⟨R, ((HD.out.nil k25).keep ks (fun b hb e => by have : b = w.heap.size + 1 := e; omega))⟩, (HP.out.keep (k4.then_ k5) (fun h => h) (fun h => h)).keep ks (fun e => by have : p = w.heap.size + 1 := e; omega) (fun e => by have : lk = w.heap.size + 1 := e; omega), (HK4.out.keep k5 (fun h => h)).keep ks (fun e => by have : w3.heap.size = w.heap.size + 1 := e; omega), ⟨by omega, lp, ll, lk3, ?_, ?_⟩, (kW2.out.then_ kk5).trans ks (fun b hb e => by have : b = w.heap.size + 1 := e; omega)⟩⟩
  · exact HP.out.blk.lt
  · exact HP.out.lock.lt
end Go.Proofs.YtadipinnbehhhaaGreatDoor
namespace Go.Proofs.YtadipinnbehhhaaGreatDoor
open Go.RowKit

theorem rises_eq {l r : List (ByteArray × AFile)} (hp : l.Perm r) (h1 : rises (l.map (·.1))) (h2 : rises (r.map (·.1))) : l = r := by
  have a1 : l.Pairwise fun a b => a.1.toList < b.1.toList := by unfold rises at h1; rw [List.pairwise_map] at h1; exact h1
  have a2 : r.Pairwise fun a b => a.1.toList < b.1.toList := by unfold rises at h2; rw [List.pairwise_map] at h2; exact h2
  exact List.Perm.eq_of_pairwise (fun a b _ _ hab hba => absurd hba (List.lt_asymm hab)) a1 a2 hp

/-- What stays of a room. -/
structure KeptPost (w : World) (p lk : Nat) (of : Option Nat) (S : PSt) (e : Ending) (w' : World) : Prop where mk ::
  ret : e = .returned (.bool true)
  purse : PurseAt w' p lk of S
  keep : Keep (PF p lk) w w'

set_option maxRecDepth 100000 in
set_option maxHeartbeats 2000000 in
theorem kept_true (d p lk k : Nat) (of : Option Nat) (D : DSt) (R : DRep) (F H : Nat → Prop) (S : PSt) (v : Value) (fs : List (ByteArray × AFile)) (w : World) (hd : DiskAt w F d D R) (hp : PurseAt w p lk of S) (hs : StAt w H (.agg #[.int .i64 D.block, v]) D.block fs)
    (hpm : D.files.Perm fs) (hr : rises (fs.map (·.1))) (hn : ∀ f ∈ D.files, f.1.size ≤ 32) (h8 : Bytes fs) (hl : Few fs) (hz : S.hand + S.parts = 0) :
    Calls Tryz.prog 14 #[.agg #[.pointer (some ⟨d, 0, none⟩), .pointer (some ⟨p, 0, none⟩), .pointer (some ⟨k, 0, none⟩), .int .i64 D.block, v]] w (KeptPost w p lk of S) := by
  obtain ⟨u, e0, hfl⟩ := hs.out
  obtain rfl : v = u := by injection e0 with e0; injection e0 with e0; injection e0 with _ e0; injection e0
  obtain ⟨A, c, rfl⟩ := hfl.form
  obtain ⟨W, hW⟩ : ∃ W, W = w.alloc (.cells #[.pointer (some ⟨d, 0, none⟩), .pointer (some ⟨p, 0, none⟩), .pointer (some ⟨k, 0, none⟩), .int .i64 D.block, .slice A fs.length c] 35) := ⟨_, rfl⟩
  have kW : Keep Nil w W := by rw [hW]; exact (Keep.refl Nil w).alloc _
  have b1 : Blk W w.heap.size 35 #[.pointer (some ⟨d, 0, none⟩), .pointer (some ⟨p, 0, none⟩), .pointer (some ⟨k, 0, none⟩), .int .i64 D.block, .slice A fs.length c] := by rw [hW]; exact Blk.new w _ _
  have c0 : W.cell? ⟨w.heap.size, 0, none⟩ = some (.pointer (some ⟨d, 0, none⟩)) := b1.at_ 0
  have c1 : W.cell? ⟨w.heap.size, 1, none⟩ = some (.pointer (some ⟨p, 0, none⟩)) := b1.at_ 1
  have c3 : W.cell? ⟨w.heap.size, 3, none⟩ = some (.int .i64 D.block) := b1.at_ 3
  have c4 : W.cell? ⟨w.heap.size, 4, none⟩ = some (.slice A fs.length c) := b1.at_ 4
  have hst := Hid.intro_ (dstate_any d D R F W.drew (hd.nil kW.drew) hn (by have := hpm.length_eq; have := hl.1; omega))
  have HS := Hid.intro_ (hs.nil kW.drew)
  have HP := Hid.intro_ (hp.keep kW.drew (fun h => h) (fun h => h))
  have lp := hp.blk.lt
  have ll := hp.lock.lt
  have KW := Hid.intro_ kW
  have nPF : ¬ PF p lk w.heap.size := fun h => by rcases h with h | h <;> omega
  have HPM := Hid.intro_ hpm
  have HR := Hid.intro_ hr
  clear hd hp hs hfl hpm hr hn e0 kW
  go_enter Tryz.func14, Tryz.ntmps14
  go_wp2_with fail
  rw [← hW]
  clear hW
  go_region_held3 (fun w' => w'.cell? ⟨w.heap.size, 0, none⟩ = some (.pointer (some ⟨d, 0, none⟩)) ∧ w'.cell? ⟨w.heap.size, 1, none⟩ = some (.pointer (some ⟨p, 0, none⟩)) ∧ w'.cell? ⟨w.heap.size, 3, none⟩ = some (.int .i64 D.block) ∧ w'.cell? ⟨w.heap.size, 4, none⟩ = some (.slice A fs.length c))
    (first | exact ⟨c0, c1, c3, c4⟩ | exact hS1.out | exact hS2.out | exact hS3.out)
    (first
      | (go_at_call 17; refine hst.out.mono ?_; rintro e w1 ⟨v1, gs, rfl, hgp, hgr, hsv, k1⟩
         obtain rfl : gs = fs := rises_eq (hgp.trans HPM.out) hgr HR.out
         have hS1 := Hid.intro_ (And.intro (cell_keep (w := W.drew) c0 k1 (fun h => h)) (And.intro (cell_keep (w := W.drew) c1 k1 (fun h => h)) (And.intro (cell_keep (w := W.drew) c3 k1 (fun h => h)) (cell_keep (w := W.drew) c4 k1 (fun h => h)))))
         have HSS := Hid.intro_ (samestate_true _ _ v1 _ D.block gs w1 hsv (HS.out.nil k1) h8 hl)
         clear hsv)
      | (go_at_call 63; refine HSS.out.mono ?_; rintro e w2 ⟨rfl, k2⟩
         have hS2 := Hid.intro_ (And.intro (cell_keep hS1.out.1 k2 (fun h => h)) (And.intro (cell_keep hS1.out.2.1 k2 (fun h => h)) (And.intro (cell_keep hS1.out.2.2.1 k2 (fun h => h)) (cell_keep hS1.out.2.2.2 k2 (fun h => h)))))
         have HU := Hid.intro_ (used_any p lk of S w2 (HP.out.keep (k1.then_ k2) (fun h => h) (fun h => h))))
      | (go_at_call 64; refine HU.out.mono ?_; rintro e w3 ⟨rfl, hp3, k3⟩
         have hS3 := Hid.intro_ (And.intro (cell_keep hS2.out.1 k3 nPF) (And.intro (cell_keep hS2.out.2.1 k3 nPF) (And.intro (cell_keep hS2.out.2.2.1 k3 nPF) (cell_keep hS2.out.2.2.2 k3 nPF))))))
  all_goals
    go_wp2
    go_ret
    exact ⟨rfl, hp3, (((KW.out.drew.then_ k1).then_ k2).mono (fun _ _ h => h.elim)).trans k3 (fun _ _ h => h)⟩
end Go.Proofs.YtadipinnbehhhaaGreatDoor
namespace Go.Proofs.YtadipinnbehhhaaGreatDoor
open Go.RowKit

def strayRec : R4 := ⟨3, 1, 4, 1⟩
def strayFs (block : Nat) : List (ByteArray × AFile) := [(⟨#[111, 112, 101, 110]⟩, ⟨false, []⟩), (⟨#[122]⟩, ⟨true, blocksB 1 [strayRec] block⟩)]

theorem append_none2 (a : Addr) (n c : Nat) (w : World) (hc : n ≤ c) : (Builtin.append_ #[26, 26] 26 #[.slice (some a) n c, .slice none 0 0]).run Tryz.prog w = .ok (.slice (some a) n c) w := by
  simp [Builtin.append_, run_underlying Tryz.underlying26, sizeOf, typeInfo, zeroValue, Builtin.lenOf, hc, run_firstCells_none]
  obtain ⟨i2, hi2, hz0, hz1, hz2⟩ := info_parts info_file
  simp [hi2, storeCells]

theorem sortF_stray (block : Nat) : sortF [(⟨#[122]⟩, ⟨true, blocksB 1 [strayRec] block⟩), (⟨#[111, 112, 101, 110]⟩, ⟨false, []⟩)] = strayFs block := by
  have hb : Op.bytesLess [111, 112, 101, 110] [122] = true := by decide
  simp [sortF, ins, insR, insStep, strayFs, hb]

theorem stray_state (block : Nat) (w w2 : World) (Av : Option Addr) (cv : Nat) (hfs : FsAt w2 (fun b => w.heap.size ≤ b) (.slice Av (blocksB 1 [strayRec] block).length cv) (blocksB 1 [strayRec] block)) (hlt : w.heap.size ≤ w2.heap.size) :
    Calls Tryz.prog 56 #[.int .i64 block, .slice (some ⟨w2.heap.size + 1, 0, none⟩) 2 2] ((w2.alloc (.cells #[.string ⟨#[122]⟩, .bool true, .slice Av (blocksB 1 [strayRec] block).length cv] 55)).alloc (.cells #[.string ⟨#[122]⟩, .bool true, .slice Av (blocksB 1 [strayRec] block).length cv, .string ⟨#[111, 112, 101, 110]⟩, .bool false, .slice none 0 0] 55))
      (StateRPost ((w2.alloc (.cells #[.string ⟨#[122]⟩, .bool true, .slice Av (blocksB 1 [strayRec] block).length cv] 55)).alloc (.cells #[.string ⟨#[122]⟩, .bool true, .slice Av (blocksB 1 [strayRec] block).length cv, .string ⟨#[111, 112, 101, 110]⟩, .bool false, .slice none 0 0] 55)) (fun b => w.heap.size ≤ b) block (sortF [(⟨#[122]⟩, ⟨true, blocksB 1 [strayRec] block⟩), (⟨#[111, 112, 101, 110]⟩, ⟨false, []⟩)])) := by
  obtain ⟨X, hX⟩ : ∃ X, X = (w2.alloc (.cells #[.string ⟨#[122]⟩, .bool true, .slice Av (blocksB 1 [strayRec] block).length cv] 55)).alloc (.cells #[.string ⟨#[122]⟩, .bool true, .slice Av (blocksB 1 [strayRec] block).length cv, .string ⟨#[111, 112, 101, 110]⟩, .bool false, .slice none 0 0] 55) := ⟨_, rfl⟩
  have k3 : Keep Nil w2 X := by rw [hX]; exact ((Keep.refl Nil w2).alloc _).alloc _
  have bf : Blk X (w2.heap.size + 1) 55 #[.string ⟨#[122]⟩, .bool true, .slice Av (blocksB 1 [strayRec] block).length cv, .string ⟨#[111, 112, 101, 110]⟩, .bool false, .slice none 0 0] := by rw [hX]; exact Blk.new_at _ _ _ (by simp)
  rw [← hX]
  refine rstate_any _ _ _ [(⟨#[122]⟩, ⟨true, blocksB 1 [strayRec] block⟩), (⟨#[111, 112, 101, 110]⟩, ⟨false, []⟩)] X ⟨some ⟨w2.heap.size + 1, 0, none⟩, 2, [.slice Av (blocksB 1 [strayRec] block).length cv, .slice none 0 0], rfl, rfl, fun j u hu => ⟨_, rfl, ?_⟩, fun a e => ?_, fun a e => ?_, fun j r f hr hf => ?_⟩ (by simp)
  · rw [add_at, Nat.zero_add]
    refine (bf.at_ j).trans ?_
    rw [← hu, List.getElem?_toArray]
    rfl
  · injection e with e
    subst e
    exact ⟨by show w.heap.size ≤ w2.heap.size + 1; omega, bf.lt, rfl⟩
  · injection e with e
    subst e
    exact ⟨_, _, bf⟩
  · match j with
    | 0 => injection hr with hr; injection hf with hf; subst hr hf; exact hfs.nil k3
    | 1 => injection hr with hr; injection hf with hf; subst hr hf; exact (OFs.nil_ X 0 _).fs (fun g hg => by cases hg)
    | j + 2 => simp at hr

def StrayPost (w : World) (block : Nat) (e : Ending) (w' : World) : Prop :=
  ∃ A c, e = .returned (.agg #[.int .i64 block, .slice A 2 c]) ∧ StAt w' (fun b => w.heap.size ≤ b) (.agg #[.int .i64 block, .slice A 2 c]) block (strayFs block) ∧ Keep Nil w w'

set_option maxRecDepth 100000 in
set_option maxHeartbeats 1000000 in
theorem stray_any (block : Nat) (w : World) (hb : 64 ≤ block ∧ block ≤ 65536 ∧ block % 32 = 0) :
    Calls Tryz.prog 11 #[.int .i64 block, .slice none 0 0] w (StrayPost w block) := by
  obtain ⟨W, hW⟩ : ∃ W, W = w.alloc (.cells #[.int .i64 0, .slice none 0 0] 28) := ⟨_, rfl⟩
  have kW : Keep Nil w W := by rw [hW]; exact (Keep.refl Nil w).alloc _
  have b0 : Blk W w.heap.size 28 #[.int .i64 0, .slice none 0 0] := by rw [hW]; exact Blk.new w _ _
  have ap := fun a n c w hc => append_none2 a n c w hc
  go_enter Tryz.func11, Tryz.ntmps11
  have b1 := Blk.new W 111 #[.int .u64 3, .int .u64 1, .int .u64 4, .int .u64 1]
  have k1 : Keep Nil W (W.alloc (.cells #[.int .u64 3, .int .u64 1, .int .u64 4, .int .u64 1] 111)) := (Keep.refl Nil W).alloc _
  have hz : W.heap.size = w.heap.size + 1 := by rw [hW]; simp
  rw [hz] at b1
  have htp := Hid.intro_ (tape_any ⟨#[122]⟩ 1 block (some ⟨w.heap.size + 1, 0, none⟩) 1 [strayRec] (W.alloc (.cells #[.int .u64 3, .int .u64 1, .int .u64 4, .int .u64 1] 111)) (by omega) hb (by simp) (by
    intro j u hu
    refine ⟨_, rfl, ?_⟩
    rw [add_at, Nat.zero_add]
    have hj : j < 4 := by have := (List.getElem?_eq_some_iff.1 hu).1; simp [rcCells, R4.ws] at this; omega
    match j, hj with
    | 0, _ => injection hu with hu; subst hu; exact b1.at_ 0
    | 1, _ => injection hu with hu; subst hu; exact b1.at_ 1
    | 2, _ => injection hu with hu; subst hu; exact b1.at_ 2
    | 3, _ => injection hu with hu; subst hu; exact b1.at_ 3) (by intro a e; injection e with e; subst e; rfl) (by
    intro r hr
    simp at hr
    subst hr
    constructor <;> simp [strayRec]))
  clear b1
  go_wp2_with (first
    | (go_at_call 22; rw [← hW]; refine htp.out.mono ?_; rintro e w2 ⟨v, rfl, hfs, k2⟩
       obtain ⟨Av, cv, rfl⟩ : ∃ A c, v = .slice A (blocksB 1 [strayRec] block).length c := by obtain ⟨A, c, _, e, _⟩ := hfs.out; exact ⟨A, c, e⟩
       have hst := Hid.intro_ (stray_state block w w2 Av cv (hfs.mono (fun b hb _ => by simp at hb; omega)) (by have := k2.size; simp at this; omega)))
    | (go_at_call 56; refine hst.out.mono ?_; rintro e w4 ⟨v4, rfl, hs4, k4⟩
       obtain ⟨u, rfl, hf4⟩ := hs4.out
       rw [sortF_stray] at hf4
       obtain ⟨A4, c4, rfl⟩ : ∃ A c, u = .slice A 2 c := by obtain ⟨A, c, e⟩ := hf4.form; exact ⟨A, c, e⟩
       have kk := Hid.intro_ (((k1.then_ k2).alloc _).alloc _ |>.then_ k4)
       have b4 := b0.keep kk.out (fun h => h)
       have z0 : w4.cell? ⟨w.heap.size, 0, none⟩ = some (.int .i64 0) := b4.at_ 0
       have z1 : w4.cell? ⟨w.heap.size, 1, none⟩ = some (.slice none 0 0) := b4.at_ 1
       have f0 := b4.fr 0
       have f1 := b4.fr 1
       have HF4 := Hid.intro_ hf4
       clear hs4 hf4))
  refine bodyPost_ret (v := .agg #[.int .i64 block, .slice A4 2 c4]) (by simp [results, Tryz.results11, go_sem, z0, z1]) rfl ?_
  have ks := ((Keep.refl (fun b => b = w.heap.size) w4).setCell (p := ⟨w.heap.size, 0, none⟩) (fun _ => rfl) (.int .i64 block)).setCell (p := ⟨w.heap.size, 1, none⟩) (fun _ => rfl) (.slice A4 2 c4)
  refine ⟨A4, c4, rfl, ⟨_, rfl, (HF4.out.mono (fun b hb _ => ?_)).far (g := w.heap.size) ks (fun cs t fr hc => ?_)⟩, (kW.then_ kk.out).trans ks (fun b hb e => by have : b = w.heap.size := e; omega)⟩
  · rcases hb with hb | hb
    · exact hb
    · have := k1.size; have := k2.size; simp at hb this; omega
  · have hb := b4
    unfold Blk at hb
    rw [hc] at hb
    injection hb with hb
    injection hb with _ hb
    subst hb
    exact ⟨by decide, by decide, by decide⟩
end Go.Proofs.YtadipinnbehhhaaGreatDoor
namespace Go.Proofs.YtadipinnbehhhaaGreatDoor
open Go.RowKit

set_option maxRecDepth 100000 in
set_option maxHeartbeats 1000000 in
theorem read_any (v n : Nat) (g o c : Nat) (w : World) (hv : v < 256 ^ n) (hv2 : v < 18446744073709551616) (hn : n ≤ 8) (hc : Rd w (some ⟨g, o, none⟩) (by8 (loB v n))) :
    Calls Tryz.prog 147 #[.slice (some ⟨g, o, none⟩) n c] w fun e w' => e = .returned (.int .u64 v) ∧ w' = w := by
  have HC := Hid.intro_ hc
  have HV := Hid.intro_ hv
  clear hc hv
  have h0 : v / 256 ^ n = 0 := Nat.div_eq_of_lt HV.out
  go_enter Tryz.func147, Tryz.ntmps147
  go_wp2
  go_loopw [3, 4] (fun a i wr => ∃ k : Nat, k ≤ n ∧ i = .int .i64 ((k : Int) - 1) ∧ a = .int .u64 ((v / 256 ^ k : Nat) : Int) ∧ wr = w) (fun _ i _ => (intOf i + 1).toNat)
  case atStart => exact ⟨n, Nat.le_refl _, rfl, by rw [h0]; rfl, rfl⟩
  case round =>
    obtain ⟨k, hk, rfl, rfl, rfl⟩ := hrel
    by_cases hlt : 0 < k
    · obtain ⟨j, rfl⟩ : ∃ j, k = j + 1 := ⟨k - 1, by omega⟩
      have hx : Hid (v / 256 ^ (j + 1) * 256 + v / 256 ^ j % 256 = v / 256 ^ j) := by
        rw [Nat.pow_succ, ← Nat.div_div_eq_div_mul]
        exact Hid.intro_ (by omega)
      have hy : Hid (v / 256 ^ j < 18446744073709551616) := Hid.intro_ (Nat.lt_of_le_of_lt (Nat.div_le_self _ _) hv2)
      obtain ⟨ad, e, hcell⟩ := HC.out j (.int .u8 ((v / 256 ^ j % 256 : Nat) : Int)) (by unfold by8 loB; rw [List.map_map, List.getElem?_map, List.getElem?_range (by omega)]; rfl)
      injection e with e
      subst e
      rw [add_at] at hcell
      obtain ⟨a, ha⟩ : ∃ a, a = v / 256 ^ (j + 1) := ⟨_, rfl⟩
      obtain ⟨y, hyy⟩ : ∃ y, y = v / 256 ^ j % 256 := ⟨_, rfl⟩
      obtain ⟨z, hzz⟩ : ∃ z, z = v / 256 ^ j := ⟨_, rfl⟩
      rw [← ha, ← hyy, ← hzz] at hx
      rw [← hzz] at hy
      have hy8 : y < 256 := by rw [hyy]; exact Nat.mod_lt _ (by omega)
      rw [← hyy] at hcell
      rw [← ha]
      have HZ := Hid.intro_ hzz
      have hx1 := hx.out
      have hy1 := hy.out
      have hj : ((j + 1 : Nat) : Int) - 1 = (j : Int) := by omega
      rw [hj]
      have hj0 : 0 ≤ (j : Int) := by omega
      have hj1 : (j : Int) < (n : Int) := by omega
      clear hx hy ha hyy hzz h0
      go_wp2
      go_roundw
      case rel => exact ⟨j, by omega, by go_num, by rw [← HZ.out]; go_num, trivial⟩
      case measure => simp [intOf]
    · obtain rfl : k = 0 := by omega
      go_wp2
      go_ret
      exact ⟨by simp, rfl⟩
end Go.Proofs.YtadipinnbehhhaaGreatDoor
namespace Go.Proofs.YtadipinnbehhhaaGreatDoor
open Go.RowKit

/-- A piece of what lies there. -/
theorem Rd.mid {w : World} {g o i : Nat} {pre mid post : List Int} (h : Rd w (some ⟨g, o, none⟩) (by8 (pre ++ mid ++ post))) (hi : pre.length = i) : Rd w (some ⟨g, o + i, none⟩) (by8 mid) := fun j u hu => by
  have hj : j < mid.length := by have := (List.getElem?_eq_some_iff.1 hu).1; simpa [by8] using this
  obtain ⟨ad, e, hc⟩ := h (i + j) u (by
    unfold by8 at hu ⊢
    rw [List.getElem?_map] at hu ⊢
    rw [List.append_assoc, List.getElem?_append_right (by omega), show i + j - pre.length = j by omega, List.getElem?_append_left hj]
    exact hu)
  injection e with e
  subst e
  rw [add_at] at hc
  refine ⟨_, rfl, ?_⟩
  rw [add_at, Nat.add_assoc]
  exact hc

/-- The parts of a block. -/
structure EncAt (w : World) (g o kind place block : Nat) (l : List R4) : Prop where mk ::
  magic : Rd w (some ⟨g, o + 0, none⟩) (by8 (loB 1095914579 4))
  verb : w.cell? ⟨g, o + 4, none⟩ = some (.int .u8 1)
  knd : w.cell? ⟨g, o + 5, none⟩ = some (.int .u8 kind)
  cnt : Rd w (some ⟨g, o + 6, none⟩) (by8 (loB l.length 2))
  plc : Rd w (some ⟨g, o + 8, none⟩) (by8 (loB place 8))
  zer : Rd w (some ⟨g, o + 16, none⟩) (by8 (loB 0 12))
  recs : Rd w (some ⟨g, o + 28, none⟩) (by8 (rcBytes l))
  zer2 : Rd w (some ⟨g, o + (28 + 32 * l.length), none⟩) (by8 (loB 0 (block - 32 - 32 * l.length)))
  sum : Rd w (some ⟨g, o + (block - 4), none⟩) (by8 (loB (crc (natB (encBody kind place l block))) 4))

theorem enc_at {w : World} {g o kind place block : Nat} {l : List R4} (h : Rd w (some ⟨g, o, none⟩) (by8 (encB kind place l block))) (hl : 32 * l.length + 32 ≤ block) : EncAt w g o kind place block l := by
  have hm : loB 1095914579 4 = [83, 84, 82, 65] := by decide
  unfold encB at h
  generalize hs : loB (crc (natB (encBody kind place l block))) 4 = S at h
  have hbl : (encBody kind place l block).length = block - 4 := by rw [encBody_len hl]
  have hb : Rd w (some ⟨g, o, none⟩) (by8 (encBody kind place l block)) := by
    have := Rd.mid (pre := []) (mid := encBody kind place l block) (post := S) (i := 0) (by simpa using h) rfl
    simpa using this
  have hv := Rd.mid (pre := [83, 84, 82, 65]) (mid := [1]) (post := [(kind : Int)] ++ loB l.length 2 ++ loB place 8 ++ loB 0 12 ++ rcBytes l ++ loB 0 (block - 32 - 32 * l.length)) (i := 4) (by simpa [encBody] using hb) rfl
  have hk := Rd.mid (pre := [83, 84, 82, 65, 1]) (mid := [(kind : Int)]) (post := loB l.length 2 ++ loB place 8 ++ loB 0 12 ++ rcBytes l ++ loB 0 (block - 32 - 32 * l.length)) (i := 5) (by simpa [encBody] using hb) rfl
  refine ⟨?_, ?_, ?_, ?_, ?_, ?_, ?_, ?_, ?_⟩
  · rw [hm]
    exact Rd.mid (pre := []) (post := [1, (kind : Int)] ++ loB l.length 2 ++ loB place 8 ++ loB 0 12 ++ rcBytes l ++ loB 0 (block - 32 - 32 * l.length)) (by simpa [encBody] using hb) rfl
  · obtain ⟨ad, e, hc⟩ := hv 0 (.int .u8 1) rfl
    injection e with e
    subst e
    rw [add_at] at hc
    exact hc
  · obtain ⟨ad, e, hc⟩ := hk 0 (.int .u8 kind) rfl
    injection e with e
    subst e
    rw [add_at] at hc
    exact hc
  · exact Rd.mid (pre := [83, 84, 82, 65, 1, (kind : Int)]) (post := loB place 8 ++ loB 0 12 ++ rcBytes l ++ loB 0 (block - 32 - 32 * l.length)) (by simpa [encBody] using hb) rfl
  · exact Rd.mid (pre := [83, 84, 82, 65, 1, (kind : Int)] ++ loB l.length 2) (post := loB 0 12 ++ rcBytes l ++ loB 0 (block - 32 - 32 * l.length)) (by simpa [encBody] using hb) (by simp [loB_len])
  · exact Rd.mid (pre := [83, 84, 82, 65, 1, (kind : Int)] ++ loB l.length 2 ++ loB place 8) (post := rcBytes l ++ loB 0 (block - 32 - 32 * l.length)) (by simpa [encBody] using hb) (by simp [loB_len])
  · exact Rd.mid (pre := [83, 84, 82, 65, 1, (kind : Int)] ++ loB l.length 2 ++ loB place 8 ++ loB 0 12) (post := loB 0 (block - 32 - 32 * l.length)) (by simpa [encBody] using hb) (by simp [loB_len])
  · exact Rd.mid (pre := [83, 84, 82, 65, 1, (kind : Int)] ++ loB l.length 2 ++ loB place 8 ++ loB 0 12 ++ rcBytes l) (post := []) (by simpa [encBody] using hb) (by simp [loB_len, rcBytes_len]; omega)
  · rw [hs]
    exact Rd.mid (pre := encBody kind place l block) (post := []) (by simpa using h) hbl

theorem zero_at {w : World} {g o n j : Nat} (h : Rd w (some ⟨g, o, none⟩) (by8 (loB 0 n))) (hj : j < n) : w.cell? ⟨g, o + j, none⟩ = some (.int .u8 0) := by
  obtain ⟨ad, e, hc⟩ := h j (.int .u8 0) (by unfold by8 loB; rw [List.map_map, List.getElem?_map, List.getElem?_range hj]; simp)
  injection e with e
  subst e
  rw [add_at] at hc
  exact hc

set_option maxRecDepth 100000 in
set_option maxHeartbeats 1000000 in
theorem head_good (kind place block g o c : Nat) (l : List R4) (w : World) (hk : 1 ≤ kind ∧ kind ≤ 255) (hb : 64 ≤ block ∧ block ≤ 65536 ∧ block % 32 = 0) (hl : 1 ≤ l.length) (hf : 32 * l.length + 32 ≤ block) (hc : block ≤ c) (hE : EncAt w g o kind place block l) :
    Calls Tryz.prog 148 #[.slice (some ⟨g, o, none⟩) block c] w fun e w' => e = .returned (.bool true) ∧ w' = w := by
  have HE := Hid.intro_ hE
  have hr1 := Hid.intro_ (fun c => read_any l.length 2 g (o + 6) c w (by omega) (by omega) (by omega) hE.cnt)
  have hr2 := Hid.intro_ (fun c => read_any 1095914579 4 g (o + 0) c w (by decide) (by decide) (by omega) hE.magic)
  have hft := Hid.intro_ (rfit_any block w)
  obtain ⟨F, hF⟩ : ∃ F, F = block / 32 - 1 := ⟨_, rfl⟩
  have hfit : fit block = (F : Int) := by
    unfold fit
    rw [if_neg (by omega)]; omega
  rw [hfit] at hft
  have c4 := hE.verb
  have c5 := hE.knd
  obtain ⟨n, hn⟩ : ∃ n, n = l.length := ⟨_, rfl⟩
  rw [← hn] at hr1 hl hf
  have HN := Hid.intro_ hn
  have hnF : ¬ ((F : Int) < (n : Int)) := by omega
  have hn1 : ¬ ((n : Int) < 1) := by omega
  have hk0 : ((kind : Int) == 0) = false := by simp; omega
  clear hE hfit hn
  go_enter Tryz.func148, Tryz.ntmps148
  go_wp2_with (first
    | (go_at_call 147; first
        | (with_reducible refine (hr1.out _).mono ?_; rintro e w2 ⟨rfl, hw2⟩; obtain rfl := hw2.symm)
        | (refine (hr2.out _).mono ?_; rintro e w2 ⟨rfl, hw2⟩; obtain rfl := hw2.symm))
    | (go_at_call 10; refine hft.out.mono ?_; rintro e w2 ⟨rfl, hw2⟩; obtain rfl := hw2.symm))
  go_loopw [4] (fun i wr => ∃ k : Nat, k ≤ 12 ∧ i = .int .i64 ((16 + k : Nat) : Int) ∧ wr = w) (fun i _ => 28 - (intOf i).toNat)
  case atStart => exact ⟨0, by omega, rfl, rfl⟩
  case round =>
    obtain ⟨k, hk2, rfl, hw⟩ := hrel; obtain rfl := hw.symm
    by_cases hlt : k < 12
    · have cz := zero_at HE.out.zer hlt
      rw [Nat.add_assoc] at cz
      have hj1 : ((16 + k : Nat) : Int) < (block : Int) := by omega
      have hj0 : 0 ≤ ((16 + k : Nat) : Int) := by omega
      go_wp2
      go_roundw
      case rel => exact ⟨k + 1, by omega, by go_num, trivial⟩
      case measure => simp [intOf]; omega
    · obtain rfl : k = 12 := by omega
      have h28 : ((16 + 12 : Nat) : Int) = 28 := rfl
      rw [h28]
      go_wp2_with fail
      go_loopw [5] (fun i wr => ∃ k : Nat, k ≤ block - 32 - 32 * n ∧ i = .int .i64 ((28 + 32 * n + k : Nat) : Int) ∧ wr = w) (fun i _ => block - (intOf i).toNat)
      case atStart => exact ⟨0, by omega, by go_num, rfl⟩
      case round =>
        obtain ⟨k, hk2, rfl, hw⟩ := hrel; obtain rfl := hw.symm
        by_cases hlt : k < block - 32 - 32 * n
        · have cz := zero_at HE.out.zer2 (by rw [← HN.out]; exact hlt)
          rw [← HN.out, Nat.add_assoc] at cz
          go_wp2
          go_roundw
          case rel => exact ⟨k + 1, by omega, by go_num, trivial⟩
          case measure => simp [intOf]; omega
        · obtain rfl : k = block - 32 - 32 * n := by omega
          go_wp2
          go_ret
          exact ⟨rfl, rfl⟩
end Go.Proofs.YtadipinnbehhhaaGreatDoor
namespace Go.Proofs.YtadipinnbehhhaaGreatDoor
open Go.RowKit

theorem body_at {w : World} {g o kind place block : Nat} {l : List R4} (h : Rd w (some ⟨g, o, none⟩) (by8 (encB kind place l block))) (hk : 1 ≤ (kind : Int) ∧ (kind : Int) ≤ 255) (j c : Nat) (hj : (natB (encBody kind place l block))[j]? = some c) : w.cell? ⟨g, o + j, none⟩ = some (.int .u8 c) := by
  unfold natB at hj
  rw [List.getElem?_map, Option.map_eq_some_iff] at hj
  obtain ⟨x, hx, rfl⟩ := hj
  have hr := encBody_range hk x (List.mem_of_getElem? hx)
  obtain ⟨ad, e, hc⟩ := h j (.int .u8 x) (by unfold by8 encB; rw [List.getElem?_map, List.getElem?_append_left (List.getElem?_eq_some_iff.1 hx).1, hx]; rfl)
  injection e with e
  subst e
  rw [add_at] at hc
  rw [hc]
  congr 2
  omega

theorem rcBytes_mid {w : World} {g o : Nat} {l : List R4} (h : Rd w (some ⟨g, o, none⟩) (by8 (rcBytes l))) {k m : Nat} {q : R4} (hq : l[k]? = some q) (hm : m < 4) : Rd w (some ⟨g, o + (32 * k + 8 * m), none⟩) (by8 (loB (q.ws.getD m 0) 8)) := by
  have e : l = l.take k ++ [q] ++ l.drop (k + 1) := by
    obtain ⟨hk, e⟩ := List.getElem?_eq_some_iff.1 hq
    subst e
    simp
  have hb : rcBytes l = rcBytes (l.take k) ++ q.bytes ++ rcBytes (l.drop (k + 1)) := by
    conv => lhs; rw [e]
    simp [rcBytes]
  have hl : (rcBytes (l.take k)).length = 32 * k := by rw [rcBytes_len, List.length_take, Nat.min_eq_left (Nat.le_of_lt (List.getElem?_eq_some_iff.1 hq).1)]
  rw [hb] at h
  have h2 := Rd.mid h hl
  rw [← Nat.add_assoc]
  match m, hm with
  | 0, _ => exact Rd.mid (mid := loB q.a 8) (pre := []) (post := loB q.b 8 ++ loB q.c 8 ++ loB q.d 8) (by simpa [R4.bytes] using h2) rfl
  | 1, _ => exact Rd.mid (mid := loB q.b 8) (pre := loB q.a 8) (post := loB q.c 8 ++ loB q.d 8) (by simpa [R4.bytes] using h2) (by simp [loB_len])
  | 2, _ => exact Rd.mid (mid := loB q.c 8) (pre := loB q.a 8 ++ loB q.b 8) (post := loB q.d 8) (by simpa [R4.bytes] using h2) (by simp [loB_len])
  | 3, _ => exact Rd.mid (mid := loB q.d 8) (pre := loB q.a 8 ++ loB q.b 8 ++ loB q.c 8) (post := []) (by simpa [R4.bytes] using h2) (by simp [loB_len])
end Go.Proofs.YtadipinnbehhhaaGreatDoor
namespace Go.Proofs.YtadipinnbehhhaaGreatDoor
open Go.RowKit

/-- A record of which m words are read. -/
def rc4 (q : R4) (m : Nat) : Array Value :=
  #[.int .u64 ((if 0 < m then q.a else 0 : Nat) : Int), .int .u64 ((if 1 < m then q.b else 0 : Nat) : Int), .int .u64 ((if 2 < m then q.c else 0 : Nat) : Int), .int .u64 ((if 3 < m then q.d else 0 : Nat) : Int)]

set_option maxRecDepth 100000 in
set_option maxHeartbeats 1000000 in
theorem decode_good (kind place block g o c : Nat) (l : List R4) (w : World) (hk : 1 ≤ kind ∧ kind ≤ 255) (hp : place < 9223372036854775808) (hb : 64 ≤ block ∧ block ≤ 65536 ∧ block % 32 = 0) (hl : 1 ≤ l.length) (hf : 32 * l.length + 32 ≤ block) (hc : block ≤ c) (hr : ∀ r ∈ l, r.Ok)
    (hE : Rd w (some ⟨g, o, none⟩) (by8 (encB kind place l block))) :
    Calls Tryz.prog 72 #[.int .i64 kind, .int .i64 place, .slice (some ⟨g, o, none⟩) block c] w fun e w' =>
      ∃ v, e = .returned (.tuple #[v, .int .i64 0]) ∧ w'.ownsRow w.heap.size 111 4 v l.length (rcCells l) ∧ Keep Nil w w' := by
  have he := enc_at hE hf
  have hhd := Hid.intro_ (head_good kind place block g o c l w hk hb hl hf hc he)
  have hbl : (natB (encBody kind place l block)).length = block - 4 := by unfold natB; rw [List.length_map, encBody_len hf]
  have hsum := Hid.intro_ (fun c => rsum_any g o c (natB (encBody kind place l block)) w (fun j x hx => body_at hE (by omega) j x hx) (fun x hx => by
    unfold natB at hx
    obtain ⟨y, hy, rfl⟩ := List.mem_map.1 hx
    have := encBody_range (kind := (kind : Int)) (by omega) y hy
    omega) (by omega))
  rw [hbl] at hsum
  have hcr : crc (natB (encBody kind place l block)) < 4294967296 := by unfold crc; omega
  obtain ⟨S, hS⟩ : ∃ S, S = crc (natB (encBody kind place l block)) := ⟨_, rfl⟩
  rw [← hS] at hsum hcr
  have hes := he.sum
  rw [← hS] at hes
  have hrs := Hid.intro_ (fun c => read_any S 4 g (o + (block - 4)) c w (by omega) (by omega) (by omega) hes)
  have hrp := Hid.intro_ (fun c => read_any place 8 g (o + 8) c w (by omega) (by omega) (by omega) he.plc)
  have hrn := Hid.intro_ (fun c => read_any l.length 2 g (o + 6) c w (by omega) (by omega) (by omega) he.cnt)
  have hft := Hid.intro_ (rfit_any block w)
  obtain ⟨F, hF⟩ : ∃ F, F = block / 32 - 1 := ⟨_, rfl⟩
  have hfit : fit block = (F : Int) := by
    unfold fit
    rw [if_neg (by omega)]; omega
  rw [hfit] at hft
  have hF0 : ((F : Int) == 0) = false := by simp; omega
  have hk1 : ¬ (kind : Int) < 1 := by omega
  have hk2 : ¬ 255 < (kind : Int) := by omega
  have hp0 : ¬ (place : Int) < 0 := by omega
  have c5 := he.knd
  have HE := Hid.intro_ he
  have HR := Hid.intro_ hr
  clear hE he hr hfit hes hbl hF hS
  go_enter Tryz.func72, Tryz.ntmps72
  go_wp2_with (first
    | (go_at_call 10; refine hft.out.mono ?_; rintro e w2 ⟨rfl, hw2⟩; obtain rfl := hw2.symm)
    | (go_at_call 146; refine (hsum.out _).mono ?_; rintro e w2 ⟨rfl, hw2⟩; obtain rfl := hw2.symm)
    | (go_at_call 148; refine hhd.out.mono ?_; rintro e w2 ⟨rfl, hw2⟩; obtain rfl := hw2.symm)
    | (go_at_call 147; first
        | (rw [show block - (block - 4) = 4 by omega]; with_reducible refine (hrs.out _).mono ?_; rintro e w2 ⟨rfl, hw2⟩; obtain rfl := hw2.symm)
        | (with_reducible refine (hrp.out _).mono ?_; rintro e w2 ⟨rfl, hw2⟩; obtain rfl := hw2.symm)
        | (with_reducible refine (hrn.out _).mono ?_; rintro e w2 ⟨rfl, hw2⟩; obtain rfl := hw2.symm)
        | (trace_state; fail)))
  go_loopw [11, 12] (fun a i wr => ∃ (k : Nat) (r : Value), k ≤ l.length ∧ r = a ∧ i = .int .i64 k ∧ Hid (wr.ownsRow w.heap.size 111 4 r k (rcCells (l.take k))) ∧ Keep Nil w wr) (fun _ i _ => l.length - (intOf i).toNat)
  case atStart => exact ⟨0, _, by omega, rfl, rfl, World.ownsRow_nil _ _ _ _, Keep.refl _ _⟩
  case round =>
    obtain ⟨k, r, hkl, rfl, rfl, HO, kwr⟩ := hrel
    by_cases hlt : k < l.length
    · obtain ⟨q, hq⟩ : ∃ q, l[k]? = some q := ⟨_, List.getElem?_eq_getElem hlt⟩
      obtain ⟨wo, rfl⟩ : ∃ x : World, x = wr := ⟨_, rfl⟩
      have hq4 := HR.out q (List.mem_of_getElem? hq)
      have HQ := Hid.intro_ hq
      have hk2047 : k ≤ 2047 := by omega
      clear hq
      go_wp2_with fail
      go_loopw [14] (fun i wi => ∃ m : Nat, m ≤ 4 ∧ i = .int .i64 m ∧ Hid (Blk wi wo.heap.size 111 (rc4 q m)) ∧ Keep Nil wo wi) (fun i _ => 4 - (intOf i).toNat)
      case atStart => exact ⟨0, by omega, rfl, Blk.new wo _ _, (Keep.refl Nil wo).alloc _⟩
      case round =>
        obtain ⟨m, hm, rfl, HB, kwi⟩ := hrel
        by_cases hm4 : m < 4
        · have hm0 : wr.cell? ⟨wo.heap.size, m, none⟩ = some (.int .u64 0) := by
            rw [HB.out.at_ m]
            have : m = 0 ∨ m = 1 ∨ m = 2 ∨ m = 3 := by omega
            rcases this with rfl | rfl | rfl | rfl <;> rfl
          have fm := HB.out.fr m
          have hkb : 32 * k + 64 ≤ block := by omega
          have hb8 := rcBytes_mid (HE.out.recs.keep (kwr.then_ kwi) (fun _ _ _ h => h)) HQ.out hm4
          rw [show o + 28 + (32 * k + 8 * m) = o + (28 + 32 * k + 8 * m) by omega] at hb8
          have hqm : q.ws.getD m 0 < 18446744073709551616 := by
            have : m = 0 ∨ m = 1 ∨ m = 2 ∨ m = 3 := by omega
            rcases this with rfl | rfl | rfl | rfl
            · exact hq4.a
            · exact hq4.b
            · exact hq4.c
            · exact hq4.d
          have hrd := Hid.intro_ (fun c => read_any (q.ws.getD m 0) 8 g (o + (28 + 32 * k + 8 * m)) c wr (by omega) hqm (by omega) hb8)
          obtain ⟨x, hx⟩ : ∃ x, x = q.ws.getD m 0 := ⟨_, rfl⟩
          rw [← hx] at hrd
          have hfin : Hid (Blk (wr.setCell ⟨wo.heap.size, m, none⟩ (.int .u64 x)) wo.heap.size 111 (rc4 q (m + 1))) := by
            have := HB.out.set_ m (.int .u64 x)
            rw [hx] at this ⊢
            have h4 : m = 0 ∨ m = 1 ∨ m = 2 ∨ m = 3 := by omega
            rcases h4 with rfl | rfl | rfl | rfl <;> exact this
          have kfin : Hid (Keep Nil wo (wr.setCell ⟨wo.heap.size, m, none⟩ (.int .u64 x))) := Hid.intro_ (kwi.trans ((Keep.refl (fun b => b = wo.heap.size) wr).setCell (p := ⟨wo.heap.size, m, none⟩) (fun _ => rfl) _) (fun b hb e => by have : b = wo.heap.size := e; omega))
          have hm4i : (m : Int) < 4 := by omega
          have hm0i : 0 ≤ (m : Int) := by omega
          clear hb8 hqm hx
          go_wp2_with (go_at_call 147; refine (hrd.out _).mono ?_; rintro e w2 ⟨rfl, hw2⟩; obtain rfl := hw2.symm)
          go_roundw
          case rel => exact ⟨m + 1, by omega, by go_num, hfin, kfin.out⟩
          case measure => simp [intOf]; omega
        · obtain rfl : m = 4 := by omega
          have z0 : wr.cell? ⟨wo.heap.size, 0, none⟩ = some (.int .u64 q.a) := HB.out.at_ 0
          have z1 : wr.cell? ⟨wo.heap.size, 1, none⟩ = some (.int .u64 q.b) := HB.out.at_ 1
          have z2 : wr.cell? ⟨wo.heap.size, 2, none⟩ = some (.int .u64 q.c) := HB.out.at_ 2
          have z3 : wr.cell? ⟨wo.heap.size, 3, none⟩ = some (.int .u64 q.d) := HB.out.at_ 3
          obtain ⟨i1, hi1, hy0, hy1, hy2⟩ := info_parts info_rec
          have lws := kwr.size
          have lws2 := kwi.size
          go_wp2_with (at_builtin; refine wpList_append_own_at _ rfl (.tmp 92) (.tmp 94) 47 rfl w.heap.size 111 i1 (.agg #[.int .u64 0, .int .u64 0, .int .u64 0, .int .u64 0]) 4 32 Tryz.underlying47 hi1 hy0 hy1 hy2 rfl (by decide) r k (rcCells (l.take k)) (by simp [Act.eval]) (own_keep HO.out (kwi.alloc _) (fun g _ h => h)) ⟨wr.heap.size, 0, none⟩ 1 1 [.int .u64 q.a, .int .u64 q.b, .int .u64 q.c, .int .u64 q.d] (by simp [Act.eval]) rfl (news_new rfl) (by simp [Value.oneCell']) (by unfold maxLen; omega) (by omega) (by simp at *; omega) ?_; intro s1 w3 ho3 k3 _ hs1)
          have hfin : Hid (w3.ownsRow w.heap.size 111 4 s1 (k + 1) (rcCells (l.take (k + 1)))) := by
            rw [List.take_add_one, HQ.out, Option.toList_some, rcCells_app]
            exact ho3
          have kfin : Hid (Keep Nil w w3) := by
            have := (kwr.then_ kwi).alloc (.cells #[.int .u64 q.a, .int .u64 q.b, .int .u64 q.c, .int .u64 q.d] 111)
            exact this.trans (Keep.of_grown k3) (fun b hb e => by have := own_base HO.out e; omega)
          go_roundw
          case rel => exact ⟨k + 1, _, by omega, rfl, by go_num, hfin, kfin.out⟩
          case measure => simp [intOf]; omega
    · obtain rfl : k = l.length := by omega
      have ho := HO.out
      rw [List.take_length] at ho
      go_wp2
      go_ret2
      exact ⟨_, rfl, ho, kwr⟩
end Go.Proofs.YtadipinnbehhhaaGreatDoor
namespace Go.Proofs.YtadipinnbehhhaaGreatDoor
open Go.RowKit

theorem take_chunk (F k : Nat) (l : List R4) : l.take ((k + 1) * F) = l.take (k * F) ++ chunk F k l := by
  unfold chunk
  rw [Nat.add_mul, Nat.one_mul, List.take_add]

theorem own_some {w : World} {base n : Nat} {e : TypeId} {size : Nat} {v : Value} {xs : List Value} (h0 : 1 ≤ n) (h : w.ownsRow base e size v n xs) : ∃ g cap, v = .slice (some ⟨g, 0, none⟩) n cap ∧ n ≤ cap ∧ base ≤ g ∧ ∀ (j : Nat) (u : Value), xs[j]? = some u → w.cell? ((⟨g, 0, none⟩ : Addr).add j) = some u := by
  have h9 := h
  rcases h.2 with ⟨_, e0⟩ | ⟨g, cap, cur, e1, hb, hh, hle, hm, hs, ht⟩
  · omega
  · subst e1
    have hr := own_rd h9
    exact ⟨g, cap, rfl, hle, hb, fun j u hu => by obtain ⟨ad, e, hc⟩ := hr j u hu; injection e with e; subst e; exact hc⟩

set_option maxRecDepth 100000 in
set_option maxHeartbeats 1000000 in
theorem records_good (kind block : Nat) (H : Nat → Prop) (v : Value) (l : List R4) (w : World) (hk : 1 ≤ kind ∧ kind ≤ 255) (hb : 64 ≤ block ∧ block ≤ 65536 ∧ block % 32 = 0) (hl : l.length ≤ 1099511627776) (hr : ∀ r ∈ l, r.Ok)
    (hf : FsAt w H v (blocksB kind l block)) :
    Calls Tryz.prog 18 #[.int .i64 kind, v] w fun e w' => ∃ u, e = .returned (.tuple #[u, .bool true]) ∧ w'.ownsRow w.heap.size 111 4 u l.length (rcCells l) ∧ Keep Nil w w' := by
  obtain ⟨A, c, vs, rfl, hvl, hvr, hvi, hvt, hvb⟩ := hf.out
  obtain ⟨F, hF⟩ : ∃ F, F = block / 32 - 1 := ⟨_, rfl⟩
  have hF1 : 1 ≤ F ∧ F ≤ 2047 := by omega
  have hfit : fit block = (F : Int) := by
    unfold fit
    rw [if_neg (by omega)]; omega
  have hft := Hid.intro_ (fun w => rfit_any block w)
  rw [hfit] at hft
  obtain ⟨nb, hnb⟩ : ∃ nb, nb = nblk F l.length := ⟨_, rfl⟩
  have hbl : blocksB kind l block = (List.range nb).map fun k => encB kind k (chunk F k l) block := by unfold blocksB; rw [← hF, ← hnb]
  have hbn : (blocksB kind l block).length = nb := by rw [hbl]; simp
  rw [hbn] at hvl ⊢
  have HVR := Hid.intro_ hvr
  have HVB := Hid.intro_ hvb
  have HBL := Hid.intro_ hbl
  have HNB := Hid.intro_ hnb
  have HR := Hid.intro_ hr
  have HB := Hid.intro_ hb
  have hFF := Hid.intro_ hF
  have hnb40 : nb ≤ 1099511627776 := by
    have : nb * 1 ≤ nb * F := Nat.mul_le_mul_left _ hF1.1
    by_cases h0 : nb = 0
    · omega
    · have := (nblk_lt (F := F) (n := l.length) (k := nb - 1) hF1.1).1 (by omega)
      have h2 : nb - 1 ≤ (nb - 1) * F := Nat.le_mul_of_pos_right _ hF1.1
      omega
  clear hf hvr hvb hvt hbl hnb hbn hr hfit hF
  go_enter Tryz.func18, Tryz.ntmps18
  go_wp2
  go_loopw [6, 7] (fun a i wr => ∃ (k : Nat) (r : Value), k ≤ nb ∧ r = a ∧ i = .int .i64 k ∧ Hid (wr.ownsRow w.heap.size 111 4 r (l.take (k * F)).length (rcCells (l.take (k * F)))) ∧ Keep Nil w wr) (fun _ i _ => nb - (intOf i).toNat)
  case atStart => exact ⟨0, _, by omega, rfl, rfl, by rw [Nat.zero_mul]; exact Hid.intro_ (World.ownsRow_nil _ _ _ _), Keep.refl _ _⟩
  case round =>
    obtain ⟨k, r, hkl, rfl, rfl, HO, kwr⟩ := hrel
    by_cases hlt : k < nb
    · have hlt2 := (nblk_lt hF1.1).1 (show k < nblk F l.length by rw [← HNB.out]; exact hlt)
      have hcl := chunk_len F k l
      obtain ⟨n, hn⟩ : ∃ n, n = (chunk F k l).length := ⟨_, rfl⟩
      have hn1 : 1 ≤ n ∧ n ≤ F ∧ 32 * n + 32 ≤ block := by have := HB.out; have := hFF.out; omega
      have hnF : k + 1 < nb → n = F := fun h => by
        have := (nblk_lt hF1.1).1 (show k + 1 < nblk F l.length by rw [← HNB.out]; exact h)
        rw [Nat.add_mul, Nat.one_mul] at this
        omega
      have hbs : (blocksB kind l block)[k]? = some (encB kind k (chunk F k l) block) := by rw [HBL.out, List.getElem?_map, List.getElem?_range hlt]; rfl
      obtain ⟨u, hu⟩ : ∃ u, vs[k]? = some u := ⟨_, List.getElem?_eq_getElem (by omega)⟩
      have hbu := (HVB.out k u _ hu hbs).nil kwr
      obtain ⟨⟨g, o, sp⟩, rfl, p⟩ := HVR.out k u hu
      obtain rfl : sp = none := (hvi _ rfl).3
      rw [add_at] at p
      have p2 := cell_keep p kwr (fun h => h)
      obtain ⟨A2, c2, rfl, hc2, hr2, hi2, _⟩ := hbu.out
      have hel : (encB kind k (chunk F k l) block).length = block := encB_len (by rw [← hn]; exact hn1.2.2)
      rw [hel] at hc2 p2 
      obtain ⟨⟨g2, o2, sp2⟩, rfl⟩ : ∃ a, A2 = some a := by
        cases A2 with
        | some a => exact ⟨a, rfl⟩
        | none =>
          obtain ⟨_, e, _⟩ := hr2 0 ((by8 (encB kind k (chunk F k l) block))[0]'(by simp [by8, hel]; have := HB.out; omega)) (List.getElem?_eq_getElem _)
          cases e
      obtain rfl : sp2 = none := (hi2 _ rfl).3
      have hdec := Hid.intro_ (decode_good kind k block g2 o2 c2 (chunk F k l) wr hk (by omega) HB.out (by omega) (by rw [← hn]; exact hn1.2.2) hc2 (fun r hr => HR.out r (List.mem_of_mem_drop (List.mem_of_mem_take hr))) hr2)
      rw [← hn] at hdec
      have HN := Hid.intro_ hn
      have hn0 : ((n : Int) == 0) = false := by simp; omega
      have hq : ((k : Int) + 1 < (nb : Int) ∧ ((n : Int) != (F : Int)) = false) ∨ ¬ ((k : Int) + 1 < (nb : Int)) := by
        by_cases h : k + 1 < nb
        · exact .inl ⟨by omega, by rw [hnF h]; simp⟩
        · exact .inr (by omega)
      have hkk0 : 0 ≤ (k : Int) := by omega
      have hkk1 : (k : Int) < (nb : Int) := by omega
      clear hbs hu hbu p hel hr2 hi2 hn hcl hnF
      obtain ⟨i1, hi1, hy0, hy1, hy2⟩ := info_parts info_rec
      have lws := kwr.size
      obtain ⟨K, hK⟩ : ∃ K, K = (l.take (k * F)).length := ⟨_, rfl⟩
      rw [← hK] at HO
      have HKK := Hid.intro_ hK
      have hK40 : K ≤ 1099511627776 := by rw [hK, List.length_take]; omega
      clear hK
      rcases hq with ⟨hq1, hq2⟩ | hq1
      all_goals
        go_wp2_with (first
          | (go_at_call 72; refine hdec.out.mono ?_; rintro e w2 ⟨v2, rfl, hv2, k2⟩
             obtain ⟨g3, cap3, rfl, hle3, hb3, hc3⟩ := own_some (by omega) hv2
             have HV2 := Hid.intro_ hv2
             have HC3 := Hid.intro_ hc3
             have lw2 := k2.size
             have p3 := cell_keep p2 k2 (fun h => h)
             clear hv2 hc3)
          | (go_at_call 10; refine (hft.out _).mono ?_; rintro e w3 ⟨rfl, hw3⟩; obtain rfl := hw3.symm)
          | (at_builtin; refine wpList_append_own_at _ rfl (.tmp 51) (.tmp 52) 47 rfl w.heap.size 111 i1 (.agg #[.int .u64 0, .int .u64 0, .int .u64 0, .int .u64 0]) 4 32 Tryz.underlying47 hi1 hy0 hy1 hy2 rfl (by decide) r K (rcCells (l.take (k * F))) (by simp [Act.eval]) (own_keep HO.out k2 (fun g _ h => h)) ⟨g3, 0, none⟩ n cap3 (rcCells (chunk F k l)) (by simp [Act.eval]) (by rw [rcCells_len', ← HN.out]) HC3.out (by intro u hu; unfold rcCells at hu; obtain ⟨r9, _, h2⟩ := List.mem_flatMap.1 hu; obtain ⟨x9, _, rfl⟩ := List.mem_map.1 h2; rfl) (by unfold maxLen; omega) (by omega) (by omega) ?_; intro s1 w4 ho4 k4 _ hs1))
        have hfin : Hid (w4.ownsRow w.heap.size 111 4 s1 (l.take ((k + 1) * F)).length (rcCells (l.take ((k + 1) * F)))) := by
          rw [take_chunk, List.length_append, ← HKK.out, ← HN.out, rcCells_app]
          exact ho4
        have kfin : Hid (Keep Nil w w4) := (kwr.then_ k2).trans (Keep.of_grown k4) (fun b hb e => by have := own_base HO.out e; omega)
        go_roundw
        case rel => exact ⟨k + 1, _, by omega, rfl, by go_num, hfin, kfin.out⟩
        case measure => simp [intOf]; omega
    · obtain rfl : k = nb := by omega
      have hge : ¬ (nblk F l.length * F < l.length) := fun h => by have := (nblk_lt hF1.1).2 h; omega
      rw [← HNB.out] at hge
      have ho := HO.out
      rw [List.take_of_length_le (by omega)] at ho
      go_wp2
      go_ret2
      exact ⟨_, rfl, ho, kwr⟩
end Go.Proofs.YtadipinnbehhhaaGreatDoor
namespace Go.Proofs.YtadipinnbehhhaaGreatDoor
open Go.RowKit

def sF (p : Nat) : Bool := decide (p = 9223372036854775808) || decide (p = 9223372036854775809)
def sV (p : Nat) : Bool := decide (p = 9223372036854775809)
def sIn (p : Nat) : Bool := !sF p && decide (p / 1099511627776 < 65536)
def sK (p : Nat) : Bool := sF p || decide (p / 1099511627776 < 65536)
def sL (p : Nat) : Int := if sIn p then ((p / 1099511627776 : Nat) : Int) else 0
def sI (p : Nat) : Int := if sIn p then ((p % 1099511627776 : Nat) : Int) else 0

/-- What Split answers. -/
def splitV (p : Nat) : Value := .tuple #[.int .i64 (sL p), .int .i64 (sI p), .bool (sF p), .bool (sV p), .bool (sK p)]

theorem and_low (p : Nat) (hp : p < 18446744073709551616) : bits .and .u64 (p : Int) 1099511627775 = ((p % 1099511627776 : Nat) : Int) := by
  have h := bits_and_u64_nat p 1099511627775 hp (by omega)
  have e : p &&& 1099511627775 = p % 1099511627776 := Nat.and_two_pow_sub_one_eq_mod p 40
  rw [e] at h
  exact h
theorem wrap_low (n : Int) (h : 0 ≤ n ∧ n < 9223372036854775808) : wrap64 n = n := by unfold wrap64; omega

theorem leaf_false : splitV 9223372036854775808 = .tuple #[.int .i64 0, .int .i64 0, .bool true, .bool false, .bool true] := by
  simp [splitV, sL, sI, sF, sV, sK, sIn]
theorem leaf_true : splitV 9223372036854775809 = .tuple #[.int .i64 0, .int .i64 0, .bool true, .bool true, .bool true] := by
  simp [splitV, sL, sI, sF, sV, sK, sIn]
theorem split_in {p : Nat} (h1 : ¬ p = 9223372036854775808) (h2 : ¬ p = 9223372036854775809) (h3 : p / 1099511627776 < 65536) :
    splitV p = .tuple #[.int .i64 ((p / 1099511627776 : Nat) : Int), .int .i64 ((p % 1099511627776 : Nat) : Int), .bool false, .bool false, .bool true] := by
  have e : sIn p = true := by unfold sIn sF; rw [decide_eq_false h1, decide_eq_false h2, decide_eq_true h3]; rfl
  unfold splitV sL sI
  rw [e]
  unfold sF sV sK sF
  rw [decide_eq_false h1, decide_eq_false h2, decide_eq_true h3]
  rfl
theorem split_out {p : Nat} (h1 : ¬ p = 9223372036854775808) (h2 : ¬ p = 9223372036854775809) (h3 : ¬ p / 1099511627776 < 65536) :
    splitV p = .tuple #[.int .i64 0, .int .i64 0, .bool false, .bool false, .bool false] := by
  have e : sIn p = false := by unfold sIn sF; rw [decide_eq_false h1, decide_eq_false h2, decide_eq_false h3]; rfl
  unfold splitV sL sI
  rw [e]
  unfold sF sV sK sF
  rw [decide_eq_false h1, decide_eq_false h2, decide_eq_false h3]
  rfl

set_option maxRecDepth 100000 in
set_option maxHeartbeats 1000000 in
theorem split_any (p : Nat) (hp : p < 18446744073709551616) (w : World) :
    Calls Tryz.prog 100 #[.int .u64 p] w fun e w' => e = .returned (splitV p) ∧ w' = w := by
  by_cases h1 : p = 9223372036854775808
  · subst h1
    rw [leaf_false]
    clear hp
    go_enter Tryz.func100, Tryz.ntmps100
    go_wp2
    exact bodyPost_ret (v := .tuple #[.int .i64 0, .int .i64 0, .bool true, .bool false, .bool true]) (by simp [results, Tryz.results100, go_sem]) rfl ⟨rfl, rfl⟩
  by_cases h2 : p = 9223372036854775809
  · subst h2
    rw [leaf_true]
    clear hp h1
    go_enter Tryz.func100, Tryz.ntmps100
    go_wp2
    exact bodyPost_ret (v := .tuple #[.int .i64 0, .int .i64 0, .bool true, .bool true, .bool true]) (by simp [results, Tryz.results100, go_sem]) rfl ⟨rfl, rfl⟩
  have q1 : ((p : Int) == 9223372036854775808) = false := by simp; omega
  have q2 : ((p : Int) == 9223372036854775809) = false := by simp; omega
  have hwr : IntKind.u64.wrap ((p : Int) / 1099511627776) = (p : Int) / 1099511627776 := by rw [IntKind.wrap_u64]; omega
  have hwm : IntKind.u64.wrap ((p : Int) % 1099511627776) = (p : Int) % 1099511627776 := by rw [IntKind.wrap_u64]; omega
  have hdv : wrap64 ((p : Int) / 1099511627776) = (p : Int) / 1099511627776 := wrap_low _ (by omega)
  have HP := Hid.intro_ hp
  by_cases h3 : p / 1099511627776 < 65536
  · rw [split_in h1 h2 h3]
    have q3 : decide ((p : Int) / 1099511627776 < 65536) = true := by simp; omega
    have hlow : wrap64 (bits .and .u64 (p : Int) 1099511627775) = ((p % 1099511627776 : Nat) : Int) := by rw [and_low p hp]; exact wrap_low _ (by omega)
    clear h1 h2 h3 hp
    go_enter Tryz.func100, Tryz.ntmps100
    go_wp2
    refine bodyPost_ret (v := .tuple #[.int .i64 ((p / 1099511627776 : Nat) : Int), .int .i64 ((p % 1099511627776 : Nat) : Int), .bool false, .bool false, .bool true]) (by simp [results, Tryz.results100, go_sem, hdv, hlow]) rfl ⟨rfl, rfl⟩
  · rw [split_out h1 h2 h3]
    have q3 : decide ((p : Int) / 1099511627776 < 65536) = false := by simp; omega
    clear h1 h2 h3 hp
    go_enter Tryz.func100, Tryz.ntmps100
    go_wp2
    exact bodyPost_ret (v := .tuple #[.int .i64 0, .int .i64 0, .bool false, .bool false, .bool false]) (by simp [results, Tryz.results100, go_sem]) rfl ⟨rfl, rfl⟩

set_option maxRecDepth 100000 in
set_option maxHeartbeats 1000000 in
theorem rsplit_any (p : Nat) (hp : p < 18446744073709551616) (w : World) :
    Calls Tryz.prog 82 #[.int .u64 p] w fun e w' => e = .returned (splitV p) ∧ w' = w := by
  by_cases h1 : p = 9223372036854775808
  · subst h1
    rw [leaf_false]
    clear hp
    go_enter Tryz.func82, Tryz.ntmps82
    go_wp2
    exact bodyPost_ret (v := .tuple #[.int .i64 0, .int .i64 0, .bool true, .bool false, .bool true]) (by simp [results, Tryz.results82, go_sem]) rfl ⟨rfl, rfl⟩
  by_cases h2 : p = 9223372036854775809
  · subst h2
    rw [leaf_true]
    clear hp h1
    go_enter Tryz.func82, Tryz.ntmps82
    go_wp2
    exact bodyPost_ret (v := .tuple #[.int .i64 0, .int .i64 0, .bool true, .bool true, .bool true]) (by simp [results, Tryz.results82, go_sem]) rfl ⟨rfl, rfl⟩
  have q1 : ((p : Int) == 9223372036854775808) = false := by simp; omega
  have q2 : ((p : Int) == 9223372036854775809) = false := by simp; omega
  have hwr : IntKind.u64.wrap ((p : Int) / 1099511627776) = (p : Int) / 1099511627776 := by rw [IntKind.wrap_u64]; omega
  have hwm : IntKind.u64.wrap ((p : Int) % 1099511627776) = (p : Int) % 1099511627776 := by rw [IntKind.wrap_u64]; omega
  have hdv : wrap64 ((p : Int) / 1099511627776) = (p : Int) / 1099511627776 := wrap_low _ (by omega)
  have HP := Hid.intro_ hp
  by_cases h3 : p / 1099511627776 < 65536
  · rw [split_in h1 h2 h3]
    have q3 : decide (65536 ≤ (p : Int) / 1099511627776) = false := by simp; omega
    clear h1 h2 h3 hp
    go_enter Tryz.func82, Tryz.ntmps82
    go_wp2
    refine bodyPost_ret (v := .tuple #[.int .i64 ((p / 1099511627776 : Nat) : Int), .int .i64 ((p % 1099511627776 : Nat) : Int), .bool false, .bool false, .bool true]) (by simp [results, Tryz.results82, go_sem, hdv]) rfl ⟨rfl, rfl⟩
  · rw [split_out h1 h2 h3]
    have q3 : decide (65536 ≤ (p : Int) / 1099511627776) = true := by simp; omega
    clear h1 h2 h3 hp
    go_enter Tryz.func82, Tryz.ntmps82
    go_wp2
    exact bodyPost_ret (v := .tuple #[.int .i64 0, .int .i64 0, .bool false, .bool false, .bool false]) (by simp [results, Tryz.results82, go_sem]) rfl ⟨rfl, rfl⟩
end Go.Proofs.YtadipinnbehhhaaGreatDoor
