/- The program's Decode at a good block. slices.Reverse at records. The desk: a tape is read: what may be read. The desk: Read and Back. Readers as states: what a reader is in memory, with the records that it holds. A reader's load where nothing is read. A reader is closed. Read and Back, in the room's words. The disk's Read, in the room's words. -/
import Derived.Deep.QuietTactic
import Derived.BigQuiet
import Derived.Test.YtadipinnbehhhaaGreatDoorCubesRowAF
import Derived.Test.YtadipinnbehhhaaGreatDoorCubesRowAE
import Derived.Test.YtadipinnbehhhaaGreatDoorCubesRowAC
namespace Go.Proofs.YtadipinnbehhhaaGreatDoor
open Go.RowKit

def dec4 (l : List R4) (t : Nat) : List Value := (rcCells l).take t ++ List.replicate (4 * l.length - t) (.int .u64 0)
theorem dec4_get (l : List R4) (t : Nat) (h : t < 4 * l.length) : (dec4 l t)[t]? = some (.int .u64 0) := by
  have hl : ((rcCells l).take t).length = t := by rw [List.length_take, rcCells_len, Nat.min_eq_left (Nat.le_of_lt h)]
  unfold dec4
  rw [List.getElem?_append_right (by omega), hl, Nat.sub_self, List.getElem?_replicate, if_pos (by omega)]
theorem dec4_set (l : List R4) (t : Nat) (u : Value) (h : (rcCells l)[t]? = some u) : (dec4 l t).set t u = dec4 l (t + 1) := by
  have ht : t < 4 * l.length := by have := (List.getElem?_eq_some_iff.1 h).1; rw [rcCells_len] at this; exact this
  have hl : ((rcCells l).take t).length = t := by rw [List.length_take, rcCells_len, Nat.min_eq_left (Nat.le_of_lt ht)]
  unfold dec4
  rw [List.set_append_right _ _ (by omega), hl, Nat.sub_self, show 4 * l.length - t = (4 * l.length - (t + 1)) + 1 by omega, List.replicate_succ, List.set_cons_zero, List.take_add_one, h, Option.toList_some, List.append_assoc]
  rfl
theorem dec4_full (l : List R4) : dec4 l (4 * l.length) = rcCells l := by
  unfold dec4
  rw [List.take_of_length_le (by rw [rcCells_len]; omega), Nat.sub_self, List.replicate_zero, List.append_nil]
theorem made_zero4 (m : Nat) : (madeCells (Value.agg #[.int .u64 0, .int .u64 0, .int .u64 0, .int .u64 0]).cells m).toList = List.replicate m (.int .u64 0) := by
  rw [List.eq_replicate_iff]
  refine ⟨by simp [size_madeCells], fun b hb => ?_⟩
  simp only [madeCells, Array.toList_map, List.mem_map] at hb
  obtain ⟨i, _, rfl⟩ := hb
  have h4 : i % 4 < 4 := Nat.mod_lt _ (by decide)
  show (#[Value.int .u64 0, .int .u64 0, .int .u64 0, .int .u64 0] : Array Value)[i % 4]! = _
  generalize i % 4 = j at h4
  have : j = 0 ∨ j = 1 ∨ j = 2 ∨ j = 3 := by omega
  rcases this with rfl | rfl | rfl | rfl <;> rfl
theorem rc_get (l : List R4) (k m : Nat) (q : R4) (hq : l[k]? = some q) (hm : m < 4) : (rcCells l)[4 * k + m]? = some (.int .u64 (q.ws.getD m 0 : Nat)) := by
  have e : l = l.take k ++ q :: l.drop (k + 1) := by
    obtain ⟨hk, e⟩ := List.getElem?_eq_some_iff.1 hq
    subst e
    simp
  have hl : (rcCells (l.take k)).length = 4 * k := by rw [rcCells_len, List.length_take, Nat.min_eq_left (Nat.le_of_lt (List.getElem?_eq_some_iff.1 hq).1)]
  have hb : rcCells l = rcCells (l.take k) ++ ((q.ws.map fun (x : Nat) => Value.int .u64 x) ++ rcCells (l.drop (k + 1))) := by
    conv => lhs; rw [e]
    rw [rcCells_app]
    rfl
  rw [hb, List.getElem?_append_right (by omega), hl, Nat.add_sub_cancel_left, List.getElem?_append_left (by simp [R4.ws]; omega)]
  match m, hm with
  | 0, _ => rfl
  | 1, _ => rfl
  | 2, _ => rfl
  | 3, _ => rfl
set_option maxRecDepth 100000 in
set_option maxHeartbeats 1000000 in
theorem pdecode_good (kind place block g o c : Nat) (l : List R4) (w : World) (hk : 1 ≤ kind ∧ kind ≤ 255) (hp : place < 9223372036854775808) (hb : 64 ≤ block ∧ block ≤ 65536 ∧ block % 32 = 0) (hl : 1 ≤ l.length) (hf : 32 * l.length + 32 ≤ block) (hc : block ≤ c) (hr : ∀ r ∈ l, r.Ok)
    (hE : Rd w (some ⟨g, o, none⟩) (by8 (encB kind place l block))) (hh : HalvesAt w) (hm : MagicAt w) :
    Calls Tryz.prog 252 #[.int .i64 kind, .int .i64 place, .slice (some ⟨g, o, none⟩) block c] w fun e w' =>
      ∃ g, e = .returned (.tuple #[.slice (some ⟨g, 0, none⟩) l.length l.length, .int .i64 0]) ∧ Blk w' g 111 (rcCells l).toArray ∧ w.heap.size ≤ g ∧ Keep Nil w w' := by
  have he := enc_at hE hf
  have hbl : (natB (encBody kind place l block)).length = block - 4 := by unfold natB; rw [List.length_map, encBody_len hf]
  obtain ⟨M, hM⟩ : ∃ M, M = block - 4 := ⟨_, rfl⟩
  have hbM : block = M + 4 := by omega
  have hsum : Hid (∀ W, Keep Nil w W → ∀ c, Calls Tryz.prog 272 #[.slice (some ⟨g, o, none⟩) M c] W fun e w' => e = .returned (.int .u32 (crc (natB (encBody kind place l block)))) ∧ w' = W) := Hid.intro_ (fun W k c => by
    have := sum_any g o c (natB (encBody kind place l block)) W (fun j x hx => cell_keep (body_at hE (by omega) j x hx) k (fun h => h)) (fun x hx => by
      unfold natB at hx
      obtain ⟨y, hy, rfl⟩ := List.mem_map.1 hx
      have := encBody_range (kind := (kind : Int)) (by omega) y hy
      omega) (by omega) (hh.keep k (fun h => h))
    rw [hbl, ← hM] at this
    exact this)
  have hcr : crc (natB (encBody kind place l block)) < 4294967296 := by unfold crc; omega
  obtain ⟨S, hS⟩ : ∃ S, S = crc (natB (encBody kind place l block)) := ⟨_, rfl⟩
  rw [← hS] at hsum hcr
  have hes := he.sum
  rw [← hS, ← hM] at hes
  have hrs : Hid (∀ W, Keep Nil w W → ∀ c, Calls Tryz.prog 284 #[.slice (some ⟨g, o + M, none⟩) 4 c, .int .i64 4] W fun e w' => e = .returned (.int .u64 S) ∧ w' = W) :=
    Hid.intro_ (fun W k c => get_any S 4 4 g (o + M) c W (by omega) (by omega) (Nat.le_refl _) (hes.keep k (fun _ _ _ h => h)))
  obtain ⟨n, hn⟩ : ∃ n, n = l.length := ⟨_, rfl⟩
  have hrn : Hid (∀ W, Keep Nil w W → ∀ m c, 2 ≤ m → Calls Tryz.prog 284 #[.slice (some ⟨g, o + 6, none⟩) m c, .int .i64 2] W fun e w' => e = .returned (.int .u64 n) ∧ w' = W) :=
    Hid.intro_ (fun W k m c hm => get_any n 2 m g (o + 6) c W (by omega) (by omega) hm (by rw [hn]; exact he.cnt.keep k (fun _ _ _ h => h)))
  have hz1 : Hid (∀ W, Keep Nil w W → ∀ c, Calls Tryz.prog 285 #[.slice (some ⟨g, o + 16, none⟩) 12 c] W fun e w' => e = .returned (.bool true) ∧ w' = W) :=
    Hid.intro_ (fun W k c => blank_any 12 g (o + 16) c W (by omega) (he.zer.keep k (fun _ _ _ h => h)))
  have hz2 : Hid (∀ W, Keep Nil w W → ∀ c, Calls Tryz.prog 285 #[.slice (some ⟨g, o + (28 + 32 * n), none⟩) (M - (28 + 32 * n)) c] W fun e w' => e = .returned (.bool true) ∧ w' = W) :=
    Hid.intro_ (fun W k c => blank_any (M - (28 + 32 * n)) g (o + (28 + 32 * n)) c W (by omega) (by rw [hn, show M - (28 + 32 * l.length) = block - 32 - 32 * l.length by omega]; exact he.zer2.keep k (fun _ _ _ h => h)))
  have hrp : Hid (∀ W, Keep Nil w W → ∀ m c, 8 ≤ m → Calls Tryz.prog 284 #[.slice (some ⟨g, o + 8, none⟩) m c, .int .i64 8] W fun e w' => e = .returned (.int .u64 place) ∧ w' = W) :=
    Hid.intro_ (fun W k m c hm => get_any place 8 m g (o + 8) c W (by omega) (by omega) hm (he.plc.keep k (fun _ _ _ h => h)))
  have hft : Hid (∀ W, Calls Tryz.prog 122 #[.int .i64 block] W fun e w' => e = .returned (.int .i64 (fit block)) ∧ w' = W) := Hid.intro_ (fun W => fit_any block W)
  obtain ⟨F, hF⟩ : ∃ F, F = block / 32 - 1 := ⟨_, rfl⟩
  have hfit : fit block = (F : Int) := by
    unfold fit
    rw [if_neg (by omega)]; omega
  rw [hfit] at hft
  have hF0 : ((F : Int) == 0) = false := by simp; omega
  have hnF : Hid (n ≤ F) := Hid.intro_ (by omega)
  have hk1 : ¬ (kind : Int) < 1 := by omega
  have hk2' : ¬ 255 < (kind : Int) := by omega
  have hp0 : ¬ (place : Int) < 0 := by omega
  have c5 := he.knd
  have c4 := he.verb
  have m0 := hm 0 83 rfl
  have m1 := hm 1 84 rfl
  have m2 := hm 2 82 rfl
  have m3 := hm 3 65 rfl
  have HE := Hid.intro_ he
  have HR := Hid.intro_ hr
  subst hbM
  rw [show ((M + 4 : Nat) : Int) = (M : Int) + 4 by omega] at hft
  rw [← hn] at hl hf
  have HN := Hid.intro_ hn
  have q1 : (0 : Int) ≤ (M : Int) := by omega
  have q2 : (M : Int) ≤ (M : Int) + 4 := by omega
  have q3 : (M : Int) + 4 ≤ (c : Int) := by omega
  have q4 : (M : Int) ≤ (c : Int) := by omega
  clear hE he hr hfit hes hbl hF hS hh hm hM hn
  go_enter Tryz.func252, Tryz.ntmps252
  go_wp2_with (first
    | (go_at_call 122; refine (hft.out _).mono ?_; rintro e w2 ⟨rfl, hw2⟩; obtain rfl := hw2.symm))
  go_quiet (((first
    | (go_at_call 284; with_reducible exact Calls.quiet_of_same (hrs.out _ ((Keep.refl Nil w).drewN _) _))
    | (go_at_call 272; with_reducible exact Calls.quiet_of_same (hsum.out _ ((Keep.refl Nil w).drewN _) _)))))
  obtain ⟨W, kW, hW⟩ : ∃ W, Keep Nil w W ∧ W = w.drewN nq := ⟨_, (Keep.refl Nil w).drewN _, rfl⟩
  rw [← hW]
  have C4 := cell_keep c4 kW (fun h => h)
  have C5 := cell_keep c5 kW (fun h => h)
  have M0 := cell_keep m0 kW (fun h => h)
  have M1 := cell_keep m1 kW (fun h => h)
  have M2 := cell_keep m2 kW (fun h => h)
  have M3 := cell_keep m3 kW (fun h => h)
  obtain ⟨X0, X1, X2, X3⟩ := magic_at (HE.out.magic.keep kW (fun _ _ _ h => h))
  have KW := Hid.intro_ kW
  clear c4 m0 m1 m2 m3 hrs hsum kW hW
  go_wp2_with ((go_at_call 284; with_reducible refine (hrn.out _ KW.out _ _ (by omega)).mono ?_; rintro e w2 ⟨rfl, hw2⟩; obtain rfl := hw2.symm))
  have r1 : (4 : Int) ≤ (c : Int) := by omega
  have r2 : (4 : Int) < (M : Int) + 4 := by omega
  have r3 : (5 : Int) < (M : Int) + 4 := by omega
  have r4 : ¬ (n : Int) < 1 := by omega
  have r5 : ¬ (F : Int) < (n : Int) := by have := hnF.out; omega
  have r6 : (28 : Int) ≤ (c : Int) := by omega
  have r7 : ((kind : Int) == 0) = false := by simp; omega
  have r8 : 28 + 32 * (n : Int) ≤ (M : Int) := by omega
  have r9 : (0 : Int) ≤ 28 + 32 * (n : Int) := by omega
  have s1 : IntKind.i64.wrap (32 * (n : Int)) = 32 * (n : Int) := IntWalk.i64_in _ (by omega)
  have s2 : IntKind.i64.wrap (28 + 32 * (n : Int)) = 28 + 32 * (n : Int) := IntWalk.i64_in _ (by omega)
  have s3 : (28 + 32 * (n : Int)).toNat = 28 + 32 * n := by omega
  have hap : ∀ (cap : Nat) (W : World), (Instr.arrayAt 383 (.slice (some ⟨g, o, none⟩) 4 cap)).run Tryz.prog W = .ok (.pointer (some ⟨g, o, none⟩)) W := fun cap W => run_arrayAt W 383 5 4 _ 4 cap Tryz.underlying383 (Nat.le_refl 4)
  have hmg := neq_mag
  go_quiet (((first
    | (go_at_call 285; first | (with_reducible exact Calls.quiet_of_same (hz1.out _ (KW.out.drewN _) _)) | (with_reducible exact Calls.quiet_of_same (hz2.out _ (KW.out.drewN _) _)))
    | (go_at_call 122; with_reducible exact Calls.quiet_of_same (hft.out _)))))
  obtain ⟨V, kV, hV⟩ : ∃ V, Keep Nil w V ∧ V = W.drewN nq := ⟨_, KW.out.drewN _, rfl⟩
  rw [← hV]
  have C5' := cell_keep c5 kV (fun h => h)
  have KV := Hid.intro_ kV
  clear C4 C5 M0 M1 M2 M3 X0 X1 X2 X3 hV kV c5
  obtain ⟨i1, hi1, hy0, hy1, hy2⟩ := info_parts info_rec
  go_wp2_with (first
    | (go_at_call 284; refine (hrp.out _ KV.out _ _ (by omega)).mono ?_; rintro e w2 ⟨rfl, hw2⟩; obtain rfl := hw2.symm)
    | (at_make; refine wpList_make_full _ rfl _ _ 47 rfl V.heap.size 111 i1 (.agg #[.int .u64 0, .int .u64 0, .int .u64 0, .int .u64 0]) 4 Tryz.underlying47 hi1 hy0 hy1 .i64 .i64 _ _ n rfl rfl rfl rfl (by rw [hy2]; omega) (by unfold maxLen; omega) (Nat.le_refl _) ?_
       intro w1 hown1 hgr1
       have k1 := Keep.of_grown_none hgr1))
  have hb0 : Blk w1 V.heap.size 111 (dec4 l 0).toArray := by
    rcases hown1.2 with ⟨hv, _⟩ | ⟨g2, cap, cur, hv, _, hh, hle, hm, hs, ht⟩
    · simp at hv
    · injection hv with ha hnn hcap
      injection ha with ha
      injection ha with ha _ _
      subst ha
      subst hcap
      unfold Blk
      rw [hh]
      have : cur = (dec4 l 0).toArray := by
        apply Array.toList_inj.1
        rw [made_zero4] at ht
        rw [show (dec4 l 0).toArray.toList = List.replicate (n * 4) (Value.int .u64 0) by unfold dec4; rw [← HN.out]; simp [Nat.mul_comm], ← ht, List.take_of_length_le (by simp [hs])]
      rw [this]
  have HB0 := Hid.intro_ hb0
  have HNM := Hid.intro_ (show 28 + 32 * n ≤ M by omega)
  have KVS := Hid.intro_ (show w.heap.size ≤ V.heap.size from KV.out.size)
  clear hown1 hgr1 hb0
  have K1 := Hid.intro_ k1
  clear k1
  go_wp2_with fail
  go_loopw [109] (fun i wr => ∃ k : Nat, k ≤ n ∧ i = .int .i64 k ∧ Hid (Blk wr V.heap.size 111 (dec4 l (4 * k)).toArray) ∧ Hid (Keep Nil V wr)) (fun i _ => n - (intOf i).toNat)
  case atStart => exact ⟨0, Nat.zero_le _, rfl, HB0, K1⟩
  case round =>
    obtain ⟨k, hkl, rfl, HB, KWR⟩ := hrel
    by_cases hlt : k < n
    · obtain ⟨q, hq⟩ : ∃ q, l[k]? = some q := ⟨_, List.getElem?_eq_getElem (by rw [← HN.out]; exact hlt)⟩
      have hq4 := HR.out q (List.mem_of_getElem? hq)
      have HQ := Hid.intro_ hq
      clear hq
      go_wp2_with fail
      go_loopw [112] (fun i wi => ∃ m : Nat, m ≤ 4 ∧ i = .int .i64 m ∧ Hid (Blk wi V.heap.size 111 (dec4 l (4 * k + m)).toArray) ∧ Hid (Keep Nil V wi)) (fun i _ => 4 - (intOf i).toNat)
      case atStart => exact ⟨0, by omega, rfl, HB, KWR⟩
      case round =>
        obtain ⟨m, hm, rfl, HBI, KWI⟩ := hrel
        by_cases hm4 : m < 4
        · have hkb : 28 + 32 * k + 8 * m + 8 ≤ M := by have := HNM.out; omega
          have hb8 := rcBytes_mid (HE.out.recs.keep (KV.out.then_ KWI.out) (fun _ _ _ h => h)) HQ.out hm4
          rw [show o + 28 + (32 * k + 8 * m) = o + (28 + 32 * k + 8 * m) by omega] at hb8
          have hqm : q.ws.getD m 0 < 18446744073709551616 := by
            have : m = 0 ∨ m = 1 ∨ m = 2 ∨ m = 3 := by omega
            rcases this with rfl | rfl | rfl | rfl
            · exact hq4.a
            · exact hq4.b
            · exact hq4.c
            · exact hq4.d
          have hrd : Hid (∀ m2 c2, 8 ≤ m2 → Calls Tryz.prog 284 #[.slice (some ⟨g, o + (28 + 32 * k + 8 * m), none⟩) m2 c2, .int .i64 8] wr.drew fun e w' => e = .returned (.int .u64 (q.ws.getD m 0 : Nat)) ∧ w' = wr.drew) :=
            Hid.intro_ (fun m2 c2 h2 => get_any (q.ws.getD m 0) 8 m2 g (o + (28 + 32 * k + 8 * m)) c2 wr.drew (by omega) (by omega) h2 (hb8.keep (Keep.refl Nil wr).drew (fun _ _ _ h => h)))
          have hts : (dec4 l (4 * k + m)).toArray[4 * k + m]? = some (.int .u64 0) := by simpa using dec4_get l (4 * k + m) (by have := HN.out; omega)
          have hm0 : wr.cell? ⟨V.heap.size, k * 4 + m, none⟩ = some (.int .u64 0) := by rw [Nat.mul_comm]; exact (HBI.out.at_ _).trans hts
          have fm := HBI.out.fr (k * 4 + m)
          have hset := dec4_set l (4 * k + m) _ (rc_get l k m q HQ.out hm4)
          obtain ⟨x, hx⟩ : ∃ x, x = q.ws.getD m 0 := ⟨_, rfl⟩
          rw [← hx] at hrd hset
          have hfin : Hid (Blk (wr.setCell ⟨V.heap.size, k * 4 + m, none⟩ (.int .u64 x)) V.heap.size 111 (dec4 l (4 * k + (m + 1))).toArray) := by
            rw [Nat.mul_comm k 4]
            have := HBI.out.set_ (4 * k + m) (.int .u64 x)
            rw [show (dec4 l (4 * k + m)).toArray.setIfInBounds (4 * k + m) (.int .u64 x) = (dec4 l (4 * k + (m + 1))).toArray by rw [← Nat.add_assoc, ← hset]; simp] at this
            exact Hid.intro_ this
          have kfin : Hid (Keep Nil V (wr.setCell ⟨V.heap.size, k * 4 + m, none⟩ (.int .u64 x))) := Hid.intro_ (KWI.out.trans ((Keep.refl (fun b => b = V.heap.size) wr).setCell (p := ⟨V.heap.size, k * 4 + m, none⟩) (fun _ => rfl) _) (fun b hb e => by have : b = V.heap.size := e; omega))
          have hm4i : (m : Int) < 4 := by omega
          have hm0i : 0 ≤ (m : Int) := by omega
          have hkn : (k : Int) < (n : Int) := by omega
          have hk0 : 0 ≤ (k : Int) := by omega
          have hM4 : 28 + 32 * (k : Int) + 8 * (m : Int) ≤ (M : Int) + 4 := by omega
          have hMc : 28 + 32 * (k : Int) + 8 * (m : Int) ≤ (c : Int) := by omega
          have hz0 : 0 ≤ 28 + 32 * (k : Int) + 8 * (m : Int) := by omega
          have hcne : ¬ c = 28 + 32 * k + 8 * m := by omega
          have h8 : 8 ≤ M + 4 - (28 + 32 * k + 8 * m) := by omega
          have t1 : IntKind.i64.wrap (32 * (k : Int)) = 32 * (k : Int) := IntWalk.i64_in _ (by omega)
          have t2 : IntKind.i64.wrap (28 + 32 * (k : Int)) = 28 + 32 * (k : Int) := IntWalk.i64_in _ (by omega)
          have t3 : IntKind.i64.wrap (8 * (m : Int)) = 8 * (m : Int) := IntWalk.i64_in _ (by omega)
          have t4 : IntKind.i64.wrap (28 + 32 * (k : Int) + 8 * (m : Int)) = 28 + 32 * (k : Int) + 8 * (m : Int) := IntWalk.i64_in _ (by omega)
          have t5 : (28 + 32 * (k : Int) + 8 * (m : Int)).toNat = 28 + 32 * k + 8 * m := by omega
          have HLN := Hid.intro_ hlt
          clear hb8 hqm hx hts hset hq4
          go_wp2_with fail
          go_still_tail 14, (by kernel_rfl)
          still_call (hrd.out _ _ h8)
          repeat still_step
          refine wpStill_nil ?_
          change wpList _ _ _ _ _ wr.drew
          clear t1 t2 t3 t4 t5
          go_wp2_with fail
          go_roundw
          case rel => exact ⟨m + 1, by omega, by go_num, Hid.intro_ (show Blk _ _ _ _ from hfin.out), Hid.intro_ kfin.out.drew⟩
          case measure => simp [intOf]; omega
        · obtain rfl : m = 4 := by omega
          go_wp2_with fail
          go_roundw
          case rel => exact ⟨k + 1, by omega, by go_num, by rw [show 4 * (k + 1) = 4 * k + 4 by omega]; exact HBI, KWI⟩
          case measure => simp [intOf]; omega
    · obtain rfl : k = n := by omega
      have hb := HB.out
      rw [HN.out, dec4_full] at hb
      go_wp2_with fail
      go_ret2
      exact ⟨V.heap.size, by rw [← HN.out]; rfl, hb, KVS.out, KV.out.then_ KWR.out⟩
end Go.Proofs.YtadipinnbehhhaaGreatDoor
namespace Go.Proofs.YtadipinnbehhhaaGreatDoor
open Go.RowKit

def RevAt (l : List R4) (i : Nat) (m : List R4) : Prop := m.length = l.length ∧ ∀ q, q < l.length → m[q]? = if q < i ∨ l.length - i ≤ q then l[l.length - 1 - q]? else l[q]?
theorem RevAt.zero (l : List R4) : RevAt l 0 l := ⟨rfl, fun q hq => by rw [if_neg (by omega)]⟩
theorem RevAt.done {l m : List R4} {i : Nat} (h : RevAt l i m) (hi : l.length ≤ 2 * i + 1) : m = l.reverse := by
  apply List.ext_getElem?
  intro q
  by_cases hq : q < l.length
  · rw [h.2 q hq, List.getElem?_reverse hq]
    by_cases hm : q < i ∨ l.length - i ≤ q
    · rw [if_pos hm]
    · rw [if_neg hm, show l.length - 1 - q = q by omega]
  · rw [List.getElem?_eq_none (by rw [h.1]; omega), List.getElem?_eq_none (by simp; omega)]
theorem RevAt.next {l m : List R4} {i : Nat} {a b : R4} (h : RevAt l i m) (hi : 2 * i + 1 < l.length) (ha : m[i]? = some a) (hb : m[l.length - 1 - i]? = some b) : RevAt l (i + 1) ((m.set i b).set (l.length - 1 - i) a) := by
  have hl := h.1
  have ea := h.2 i (by omega)
  rw [if_neg (by omega), ha] at ea
  have eb := h.2 (l.length - 1 - i) (by omega)
  rw [if_neg (by omega), hb] at eb
  refine ⟨by simp [hl], fun q hq => ?_⟩
  rw [List.getElem?_set, List.getElem?_set]
  by_cases h1 : l.length - 1 - i = q
  · rw [if_pos h1, if_pos (by simp; omega), if_pos (by omega), ea]
    congr 1; omega
  · rw [if_neg h1]
    by_cases h2 : i = q
    · rw [if_pos h2, if_pos (by omega), if_pos (by omega), ← h2, eb]
    · rw [if_neg h2, h.2 q hq]
      by_cases h3 : q < i ∨ l.length - i ≤ q
      · rw [if_pos h3, if_pos (by omega)]
      · rw [if_neg h3, if_neg (by omega)]
theorem rc_set : ∀ (m : List R4) (k : Nat) (q : R4), k < m.length → ((((rcCells m).set (k * 4) (.int .u64 q.a)).set (k * 4 + 1) (.int .u64 q.b)).set (k * 4 + 2) (.int .u64 q.c)).set (k * 4 + 3) (.int .u64 q.d) = rcCells (m.set k q)
  | [], _, _, h => by simp at h
  | r :: m, 0, q, _ => rfl
  | r :: m, k + 1, q, h => by
    have ih := rc_set m k q (by simpa using h)
    rw [List.set_cons_succ]
    show (((((Value.int .u64 r.a) :: (.int .u64 r.b) :: (.int .u64 r.c) :: (.int .u64 r.d) :: rcCells m).set ((k + 1) * 4) (.int .u64 q.a)).set ((k + 1) * 4 + 1) (.int .u64 q.b)).set ((k + 1) * 4 + 2) (.int .u64 q.c)).set ((k + 1) * 4 + 3) (.int .u64 q.d) = (Value.int .u64 r.a) :: (.int .u64 r.b) :: (.int .u64 r.c) :: (.int .u64 r.d) :: rcCells (m.set k q)
    rw [← ih, show (k + 1) * 4 = k * 4 + 1 + 1 + 1 + 1 by omega]
    simp only [List.set_cons_succ]
def put4 (w : World) (g k : Nat) (q : R4) : World := (((w.setCell ⟨g, k * 4, none⟩ (.int .u64 q.a)).setCell ⟨g, k * 4 + 1, none⟩ (.int .u64 q.b)).setCell ⟨g, k * 4 + 2, none⟩ (.int .u64 q.c)).setCell ⟨g, k * 4 + 3, none⟩ (.int .u64 q.d)
theorem put4_blk {w : World} {g k : Nat} {q : R4} {m : List R4} (h : Blk w g 111 (rcCells m).toArray) (hk : k < m.length) : Blk (put4 w g k q) g 111 (rcCells (m.set k q)).toArray := by
  have := (((h.set_ (k * 4) (.int .u64 q.a)).set_ (k * 4 + 1) (.int .u64 q.b)).set_ (k * 4 + 2) (.int .u64 q.c)).set_ (k * 4 + 3) (.int .u64 q.d)
  rw [← rc_set m k q hk]
  simp only [List.setIfInBounds_toArray] at this
  exact this
theorem put4_keep {w : World} {g k : Nat} {q : R4} : Keep (fun b => b = g) w (put4 w g k q) :=
  ((((Keep.refl (fun b => b = g) w).setCell (p := ⟨g, k * 4, none⟩) (fun _ => rfl) _).setCell (p := ⟨g, k * 4 + 1, none⟩) (fun _ => rfl) _).setCell (p := ⟨g, k * 4 + 2, none⟩) (fun _ => rfl) _).setCell (p := ⟨g, k * 4 + 3, none⟩) (fun _ => rfl) _
set_option maxRecDepth 100000 in
set_option maxHeartbeats 1000000 in
theorem rev_rec (g c : Nat) (l : List R4) (w : World) (hb : Blk w g 111 (rcCells l).toArray) (hl : l.length ≤ 65536) :
    Calls Tryz.prog 253 #[.slice (some ⟨g, 0, none⟩) l.length c] w fun e w' => e = .returned (.tuple #[]) ∧ Blk w' g 111 (rcCells l.reverse).toArray ∧ Keep (fun b => b = g) w w' := by
  obtain ⟨n, hn⟩ : ∃ n, n = l.length := ⟨_, rfl⟩
  rw [← hn] at hl ⊢
  have HN := Hid.intro_ hn
  clear hn
  go_enter Tryz.func253, Tryz.ntmps253
  go_wp2_with fail
  go_loopw [2, 3] (fun a b wr => ∃ (i : Nat) (m : List R4), 2 * i ≤ n ∧ a = .int .i64 i ∧ b = .int .i64 ((n : Int) - 1 - i) ∧ Hid (RevAt l i m) ∧ Hid (Blk wr g 111 (rcCells m).toArray) ∧ Hid (Keep (fun b => b = g) w wr)) (fun a _ _ => n - (intOf a).toNat)
  case atStart => exact ⟨0, l, by omega, rfl, by go_num, RevAt.zero l, hb, Keep.refl _ _⟩
  case round =>
    obtain ⟨i, m, hi, rfl, rfl, HR, HB, HK⟩ := hrel
    by_cases hlt : 2 * i + 1 < n
    · have hml : m.length = n := by rw [HR.out.1, HN.out]
      obtain ⟨j, hj⟩ : ∃ j, j = n - 1 - i := ⟨_, rfl⟩
      obtain ⟨a, ha⟩ : ∃ a, m[i]? = some a := ⟨_, List.getElem?_eq_getElem (by omega)⟩
      obtain ⟨b, hbb⟩ : ∃ b, m[j]? = some b := ⟨_, List.getElem?_eq_getElem (by omega)⟩
      have HA := Hid.intro_ ha
      have HBB := Hid.intro_ hbb
      have cell : ∀ (k t : Nat) (q : R4), m[k]? = some q → t < 4 → wr.cell? ⟨g, k * 4 + t, none⟩ = some (.int .u64 (q.ws.getD t 0 : Nat)) := fun k t q hq ht => by
        rw [Nat.mul_comm]
        exact (HB.out.at_ _).trans (by simpa using rc_get m k t q hq ht)
      have a0 : wr.cell? ⟨g, i * 4, none⟩ = some (.int .u64 a.a) := cell i 0 a ha (by decide)
      have a1 : wr.cell? ⟨g, i * 4 + 1, none⟩ = some (.int .u64 a.b) := cell i 1 a ha (by decide)
      have a2 : wr.cell? ⟨g, i * 4 + 2, none⟩ = some (.int .u64 a.c) := cell i 2 a ha (by decide)
      have a3 : wr.cell? ⟨g, i * 4 + 3, none⟩ = some (.int .u64 a.d) := cell i 3 a ha (by decide)
      have b0 : wr.cell? ⟨g, j * 4, none⟩ = some (.int .u64 b.a) := cell j 0 b hbb (by decide)
      have b1 : wr.cell? ⟨g, j * 4 + 1, none⟩ = some (.int .u64 b.b) := cell j 1 b hbb (by decide)
      have b2 : wr.cell? ⟨g, j * 4 + 2, none⟩ = some (.int .u64 b.c) := cell j 2 b hbb (by decide)
      have b3 : wr.cell? ⟨g, j * 4 + 3, none⟩ = some (.int .u64 b.d) := cell j 3 b hbb (by decide)
      have ejz : (n : Int) - 1 - (i : Int) = (j : Int) := by omega
      rw [ejz]
      have hij : (i : Int) < (j : Int) := by omega
      have hi0 : 0 ≤ (i : Int) := by omega
      have hj0 : 0 ≤ (j : Int) := by omega
      have hin : (i : Int) < (n : Int) := by omega
      have hjn : (j : Int) < (n : Int) := by omega
      have HJ := Hid.intro_ hj
      have HL := Hid.intro_ hlt
      have f0 := HB.out.fr (i * 4)
      have f1 := HB.out.fr (i * 4 + 1)
      have f2 := HB.out.fr (i * 4 + 2)
      have f3 := HB.out.fr (i * 4 + 3)
      have e0 := HB.out.fr (j * 4)
      have e1 := HB.out.fr (j * 4 + 1)
      have e2 := HB.out.fr (j * 4 + 2)
      have e3 := HB.out.fr (j * 4 + 3)
      clear ha hbb cell hj hml hlt ejz
      go_wp2_with fail
      go_region_with (fail)
      all_goals
        go_wp2_with fail
        go_roundw
        case rel =>
          have hl2 := HL.out
          have hj2 := HJ.out
          have hm2 : m.length = n := by rw [HR.out.1, HN.out]
          have hi2 : n - 1 - i < n := by omega
          refine ⟨i + 1, (m.set i b).set j a, by omega, by go_num, by congr 1; omega, ?_, ?_, ?_⟩
          · have := HR.out.next (a := a) (b := b) (by rw [← HN.out]; exact hl2) HA.out (by rw [← HN.out, ← hj2]; exact HBB.out)
            rw [← HN.out, ← hj2] at this
            exact Hid.intro_ this
          · have := (put4_blk (k := j) (q := a) (put4_blk (k := i) (q := b) HB.out (by omega)) (by rw [List.length_set]; omega)).drew
            unfold put4 at this
            exact Hid.intro_ this
          · have := ((HK.out.trans (put4_keep (k := i) (q := b)) (fun _ _ h => h)).trans (put4_keep (k := j) (q := a)) (fun _ _ h => h)).drew
            unfold put4 at this
            exact Hid.intro_ this
        case measure => have := HL.out; simp [intOf]; omega
    · have hnot : ¬ (i : Int) < (n : Int) - 1 - i := by omega
      have HX := Hid.intro_ hlt
      go_wp2_with fail
      go_end0
      have : m = l.reverse := HR.out.done (by rw [← HN.out]; have := HX.out; omega)
      exact ⟨rfl, by rw [← this]; exact HB.out, HK.out⟩
end Go.Proofs.YtadipinnbehhhaaGreatDoor
namespace Go.Proofs.YtadipinnbehhhaaGreatDoor
open Go.RowKit

def DSt.readable (D : DSt) (s : ByteArray) : Int × Int := if (D.length s).2.2 = 0 ∧ (D.length s).2.1 = false then (0, 15) else ((D.length s).1, (D.length s).2.2)
set_option maxHeartbeats 1000000 in
theorem sealed_any (F : Nat → Prop) (E : Nat → Addr) (d p lk k : Nat) (of : Option Nat) (D : DSt) (S : PSt) (K next : Int) (s : ByteArray) (w : World) (h : DkAt w F E d p lk k of D S K next) :
    Calls Tryz.prog 202 #[.pointer (some ⟨k, 0, none⟩), .string s] w fun e w' => e = .returned (.tuple #[.int .i64 (D.readable s).1, .int .i64 (D.readable s).2]) ∧ Keep Nil w w' := by
  obtain ⟨R, hd⟩ := h.disk
  have hl := length_any d D R F E s w hd h.envd
  have c0 : w.cell? ⟨k, 0, none⟩ = some (.pointer (some ⟨d, 0, none⟩)) := h.desk.at_ 0
  unfold DSt.readable
  generalize (D.length s).1 = n at *
  generalize (D.length s).2.1 = b at *
  generalize (D.length s).2.2 = q at *
  have HL := Hid.intro_ hl
  clear hl
  by_cases h1 : q = 0
  · subst h1
    cases b with
    | false =>
      rw [if_pos ⟨rfl, rfl⟩]
      go_enter Tryz.func202, Tryz.ntmps202
      go_wp2_with (go_at_call 182; refine HL.out.mono ?_; rintro e w' ⟨rfl, hk⟩)
      go_ret2
      exact ⟨rfl, hk⟩
    | true =>
      rw [if_neg (by simp)]
      go_enter Tryz.func202, Tryz.ntmps202
      go_wp2_with (go_at_call 182; refine HL.out.mono ?_; rintro e w' ⟨rfl, hk⟩)
      go_ret2
      exact ⟨rfl, hk⟩
  · rw [if_neg (by simp [h1])]
    have e1 : (q == 0) = false := by simpa using h1
    clear h1
    go_enter Tryz.func202, Tryz.ntmps202
    go_wp2_with (go_at_call 182; refine HL.out.mono ?_; rintro e w' ⟨rfl, hk⟩)
    go_ret2
    exact ⟨rfl, hk⟩
def rdCells (k : Nat) (name : ByteArray) (kind : Int) (lst : Value) (dead : Int) (done back : Bool) (blocks place : Int) : Array Value :=
  #[.pointer (some ⟨k, 0, none⟩), .string name, .int .i64 kind, lst, .int .i64 dead, .bool done, .bool back, .int .i64 blocks, .int .i64 place]
def openR (D : DSt) (S : PSt) (K : Int) (name : ByteArray) (kind : Int) : Int × PSt :=
  if ¬ (1 ≤ kind ∧ kind ≤ 5) then (1, S) else if ¬ (D.readable name).2 = 0 then ((D.readable name).2, S) else if S.frees < K then (2, S) else (0, S.take K)
structure RdPost (w : World) (F : Nat → Prop) (E : Nat → Addr) (d p lk k : Nat) (of : Option Nat) (D : DSt) (X : Int × PSt) (K next : Int) (name : ByteArray) (kind : Int) (back : Bool) (e : Ending) (w' : World) : Prop where mk ::
  out : ∃ F', DkAt w' F' E d p lk k of D X.2 K next ∧ Stp w (RF F p lk k) w' (RF F' p lk k) ∧
    ((¬ X.1 = 0 ∧ e = .returned (.tuple #[.pointer none, .int .i64 X.1])) ∨
     (X.1 = 0 ∧ ∃ b, e = .returned (.tuple #[.pointer (some ⟨b, 0, none⟩), .int .i64 0]) ∧ w.heap.size ≤ b ∧ ¬ RF F' p lk k b ∧ Blk w' b 267 (rdCells k name kind (.slice none 0 0) 0 false back (D.readable name).1 (if back then (D.readable name).1 - 1 else 0))))
theorem RdPost.bad {w w' : World} {F : Nat → Prop} {E : Nat → Addr} {d p lk k : Nat} {of : Option Nat} {D : DSt} {X : Int × PSt} {K next : Int} {name : ByteArray} {kind : Int} {back : Bool} (n : Int) (S : PSt) (hX : X = (n, S)) (hn : ¬ n = 0)
    (h : DkTo w F E d p lk k of D S K next w') : RdPost w F E d p lk k of D X K next name kind back (.returned (.tuple #[.pointer none, .int .i64 n])) w' := by
  subst hX
  obtain ⟨F', h1, h2⟩ := h
  exact ⟨F', h1, h2, .inl ⟨hn, rfl⟩⟩
theorem RdPost.good {w w3 : World} {F F3 : Nat → Prop} {E : Nat → Addr} {d p lk k : Nat} {of : Option Nat} {D : DSt} {X : Int × PSt} {K next : Int} {name : ByteArray} {kind : Int} {back : Bool} (S : PSt) (n q : Int) (hX : X = (0, S)) (hn : n = (D.readable name).1) (hq : q = if back then n - 1 else 0)
    (h : DkAt w3 F3 E d p lk k of D S K next) (hs : Stp w (RF F p lk k) w3 (RF F3 p lk k)) :
    RdPost w F E d p lk k of D X K next name kind back (.returned (.tuple #[.pointer (some ⟨w3.heap.size, 0, none⟩), .int .i64 0])) (w3.alloc (.cells (rdCells k name kind (.slice none 0 0) 0 false back n q) 267)) := by
  subst hX hn hq
  exact ⟨F3, h.nil ((Keep.refl Nil _).alloc _), hs.then_nil ((Keep.refl Nil _).alloc _), .inr ⟨rfl, w3.heap.size, rfl, hs.keep.size, fun hb => Nat.lt_irrefl _ (h.lt _ hb), Blk.new _ _ _⟩⟩
set_option maxRecDepth 100000 in
set_option maxHeartbeats 4000000 in
theorem readt_any (F : Nat → Prop) (E : Nat → Addr) (d p lk k : Nat) (of : Option Nat) (D : DSt) (S : PSt) (K next : Int) (name : ByteArray) (kind : Int) (back : Bool) (w : World) (h : DkAt w F E d p lk k of D S K next) (hK : 0 < K) (hn0 : 0 ≤ (D.readable name).1) (hn1 : (D.readable name).1 ≤ 1099511627776) :
    Calls Tryz.prog 163 #[.pointer (some ⟨k, 0, none⟩), .string name, .int .i64 kind, .bool back] w (RdPost w F E d p lk k of D (openR D S K name kind) K next name kind back) := by
  have c1 : w.cell? ⟨k, 1, none⟩ = some (.pointer (some ⟨p, 0, none⟩)) := h.desk.at_ 1
  have c2 : w.cell? ⟨k, 2, none⟩ = some (.int .i64 K) := h.desk.at_ 2
  have hf := sealed_any F E d p lk k of D S K next name w h
  by_cases h1 : 1 ≤ kind ∧ kind ≤ 5
  · have e1 := Hid.intro_ (show (decide (1 ≤ kind) && decide (kind ≤ 5)) = true by simp; exact h1)
    by_cases h3 : (D.readable name).2 = 0
    · rw [h3] at hf
      obtain ⟨n, hn⟩ : ∃ n, n = (D.readable name).1 := ⟨_, rfl⟩
      rw [← hn] at hf hn0 hn1
      have HNN := Hid.intro_ hn
      have HF := Hid.intro_ hf
      by_cases h4 : S.frees < K
      · have HX := Hid.intro_ (show openR D S K name kind = (2, S) by simp [openR, h1, h3, h4])
        have HQ := Hid.intro_ h4
        clear h1 h3 hf h4 hn
        go_enter Tryz.func163, Tryz.ntmps163
        go_wp2_with (first
          | (go_at_call 124; refine (known_any kind _).mono ?_; rw [e1.out]; rintro e w' ⟨rfl, hw⟩; obtain rfl := hw.symm)
          | (go_at_call 202; refine HF.out.mono ?_; rintro e w1 ⟨rfl, hk1⟩
             have h1 := h.nil hk1
             have d1 : w1.cell? ⟨k, 1, none⟩ = some (.pointer (some ⟨p, 0, none⟩)) := h1.desk.at_ 1
             have d2 : w1.cell? ⟨k, 2, none⟩ = some (.int .i64 K) := h1.desk.at_ 2))
        go_cut [35] from 26 to 35 (fun v wc => v = .bool (decide (S.frees < K)) ∧ DkTo w F E d p lk k of D S K next wc)
        case first =>
          go_region_with (go_at_call 126; refine (frees_dk (h1.nil ((Keep.refl Nil _).drew))).mono ?_; rintro e w2 ⟨rfl, ht⟩
                          have d2' : w2.cell? ⟨k, 2, none⟩ = some (.int .i64 K) := by obtain ⟨F2, h2, _⟩ := ht; exact h2.desk.at_ 2)
          all_goals
            go_wp2_with fail
            go_meet
            exact ⟨rfl, ht.from_nil hk1.drew⟩
        case rest =>
          obtain ⟨rfl, F2, h2, s2⟩ := hcut
          have hq := HQ.out
          have x1 : wc.cell? ⟨k, 1, none⟩ = some (.pointer (some ⟨p, 0, none⟩)) := h2.desk.at_ 1
          have x2 : wc.cell? ⟨k, 2, none⟩ = some (.int .i64 K) := h2.desk.at_ 2
          go_wp2_with fail
          go_ret2
          exact RdPost.bad 2 S HX.out (by decide) ⟨F2, h2, s2⟩
      · have hask := Hid.intro_ (asked_frees hK h4)
        have HQ := Hid.intro_ h4
        have HX := Hid.intro_ (show openR D S K name kind = (0, S.take K) by simp [openR, h1, h3, h4])
        clear h1 h3 hf h4 hn
        cases back with
        | false =>
          go_enter Tryz.func163, Tryz.ntmps163
          go_wp2_with (first
            | (go_at_call 124; refine (known_any kind _).mono ?_; rw [e1.out]; rintro e w' ⟨rfl, hw⟩; obtain rfl := hw.symm)
            | (go_at_call 202; refine HF.out.mono ?_; rintro e w1 ⟨rfl, hk1⟩
               have h1 := h.nil hk1
               have d1 : w1.cell? ⟨k, 1, none⟩ = some (.pointer (some ⟨p, 0, none⟩)) := h1.desk.at_ 1
               have d2 : w1.cell? ⟨k, 2, none⟩ = some (.int .i64 K) := h1.desk.at_ 2))
          go_cut [35] from 26 to 35 (fun v wc => v = .bool (decide (S.frees < K)) ∧ DkTo w F E d p lk k of D S K next wc)
          case first =>
            go_region_with (go_at_call 126; refine (frees_dk (h1.nil ((Keep.refl Nil _).drew))).mono ?_; rintro e w2 ⟨rfl, ht⟩
                            have d2' : w2.cell? ⟨k, 2, none⟩ = some (.int .i64 K) := by obtain ⟨F2, h2, _⟩ := ht; exact h2.desk.at_ 2)
            all_goals
              go_wp2_with fail
              go_meet
              exact ⟨rfl, ht.from_nil hk1.drew⟩
          case rest =>
            obtain ⟨rfl, F2, h2, s2⟩ := hcut
            have hq := HQ.out
            have x1 : wc.cell? ⟨k, 1, none⟩ = some (.pointer (some ⟨p, 0, none⟩)) := h2.desk.at_ 1
            have x2 : wc.cell? ⟨k, 2, none⟩ = some (.int .i64 K) := h2.desk.at_ 2
            go_wp2_with fail
            go_still_tail 8, (by kernel_rfl)
            change wpList _ _ _ _ _ wc.drew
            go_wp2_with (go_at_call 127; refine (take_dk K (h2.nil ((Keep.refl Nil _).drew))).mono ?_; rw [hask.out]; rintro e w3 ⟨rfl, F3, h3, s3⟩)
            go_ret2
            exact RdPost.good _ n _ HX.out HNN.out rfl h3 ((s2.then_nil ((Keep.refl Nil _).drew)).trans s3)
        | true =>
          go_enter Tryz.func163, Tryz.ntmps163
          go_wp2_with (first
            | (go_at_call 124; refine (known_any kind _).mono ?_; rw [e1.out]; rintro e w' ⟨rfl, hw⟩; obtain rfl := hw.symm)
            | (go_at_call 202; refine HF.out.mono ?_; rintro e w1 ⟨rfl, hk1⟩
               have h1 := h.nil hk1
               have d1 : w1.cell? ⟨k, 1, none⟩ = some (.pointer (some ⟨p, 0, none⟩)) := h1.desk.at_ 1
               have d2 : w1.cell? ⟨k, 2, none⟩ = some (.int .i64 K) := h1.desk.at_ 2))
          go_cut [35] from 26 to 35 (fun v wc => v = .bool (decide (S.frees < K)) ∧ DkTo w F E d p lk k of D S K next wc)
          case first =>
            go_region_with (go_at_call 126; refine (frees_dk (h1.nil ((Keep.refl Nil _).drew))).mono ?_; rintro e w2 ⟨rfl, ht⟩
                            have d2' : w2.cell? ⟨k, 2, none⟩ = some (.int .i64 K) := by obtain ⟨F2, h2, _⟩ := ht; exact h2.desk.at_ 2)
            all_goals
              go_wp2_with fail
              go_meet
              exact ⟨rfl, ht.from_nil hk1.drew⟩
          case rest =>
            obtain ⟨rfl, F2, h2, s2⟩ := hcut
            have hq := HQ.out
            have x1 : wc.cell? ⟨k, 1, none⟩ = some (.pointer (some ⟨p, 0, none⟩)) := h2.desk.at_ 1
            have x2 : wc.cell? ⟨k, 2, none⟩ = some (.int .i64 K) := h2.desk.at_ 2
            go_wp2_with fail
            go_still_tail 8, (by kernel_rfl)
            change wpList _ _ _ _ _ wc.drew
            go_wp2_with (go_at_call 127; refine (take_dk K (h2.nil ((Keep.refl Nil _).drew))).mono ?_; rw [hask.out]; rintro e w3 ⟨rfl, F3, h3, s3⟩)
            go_ret2
            exact RdPost.good _ n _ HX.out HNN.out rfl h3 ((s2.then_nil ((Keep.refl Nil _).drew)).trans s3)
    · have HX := Hid.intro_ (show openR D S K name kind = ((D.readable name).2, S) by simp [openR, h1, h3])
      obtain ⟨q, hq⟩ : ∃ q, q = (D.readable name).2 := ⟨_, rfl⟩
      rw [← hq] at h3 hf HX
      have e2 : (q == 0) = false := by simpa using h3
      have H3 := Hid.intro_ h3
      have HF := Hid.intro_ hf
      clear h1 h3 hf hq
      go_enter Tryz.func163, Tryz.ntmps163
      go_wp2_with (first
        | (go_at_call 124; refine (known_any kind _).mono ?_; rw [e1.out]; rintro e w' ⟨rfl, hw⟩; obtain rfl := hw.symm)
        | (go_at_call 202; refine HF.out.mono ?_; rintro e w1 ⟨rfl, hk1⟩))
      go_ret2
      exact RdPost.bad q S HX.out H3.out ((DkTo.refl h).nil hk1)
  · have e1 := Hid.intro_ (show (decide (1 ≤ kind) && decide (kind ≤ 5)) = false by simp; intro; omega)
    have HX := Hid.intro_ (show openR D S K name kind = (1, S) by simp [openR, h1])
    clear h1 hf
    go_enter Tryz.func163, Tryz.ntmps163
    go_wp2_with (go_at_call 124; refine (known_any kind _).mono ?_; rw [e1.out]; rintro e w' ⟨rfl, hw⟩; obtain rfl := hw.symm)
    go_ret2
    exact RdPost.bad 1 S HX.out (by decide) (DkTo.refl h)
end Go.Proofs.YtadipinnbehhhaaGreatDoor
namespace Go.Proofs.YtadipinnbehhhaaGreatDoor
open Go.RowKit

set_option maxRecDepth 100000 in
set_option maxHeartbeats 1000000 in
theorem tread_any (F : Nat → Prop) (E : Nat → Addr) (d p lk k : Nat) (of : Option Nat) (D : DSt) (S : PSt) (K next : Int) (name : ByteArray) (kind : Int) (w : World) (h : DkAt w F E d p lk k of D S K next) (hK : 0 < K) (hn0 : 0 ≤ (D.readable name).1) (hn1 : (D.readable name).1 ≤ 1099511627776) :
    Calls Tryz.prog 101 #[.pointer (some ⟨k, 0, none⟩), .string name, .int .i64 kind] w (RdPost w F E d p lk k of D (openR D S K name kind) K next name kind false) := by
  have HR := Hid.intro_ (readt_any F E d p lk k of D S K next name kind false w h hK hn0 hn1)
  clear hn0 hn1
  go_enter Tryz.func101, Tryz.ntmps101
  go_wp2_with fail
  refine HR.out.mono ?_
  rintro e w1 ⟨F', h1, s1, hc⟩
  rcases hc with ⟨hn, rfl⟩ | ⟨hz, b, rfl, hb, hnb, hblk⟩
  · have HN := Hid.intro_ hn
    clear hn
    go_wp2_with fail
    go_ret2
    exact ⟨F', h1, s1, .inl ⟨HN.out, rfl⟩⟩
  · have HZ := Hid.intro_ hz
    have HB := Hid.intro_ hblk
    clear hz hblk
    go_wp2_with fail
    go_ret2
    exact ⟨F', h1, s1, .inr ⟨HZ.out, b, rfl, hb, hnb, HB.out⟩⟩
set_option maxRecDepth 100000 in
set_option maxHeartbeats 1000000 in
theorem tback_any (F : Nat → Prop) (E : Nat → Addr) (d p lk k : Nat) (of : Option Nat) (D : DSt) (S : PSt) (K next : Int) (name : ByteArray) (kind : Int) (w : World) (h : DkAt w F E d p lk k of D S K next) (hK : 0 < K) (hn0 : 0 ≤ (D.readable name).1) (hn1 : (D.readable name).1 ≤ 1099511627776) :
    Calls Tryz.prog 154 #[.pointer (some ⟨k, 0, none⟩), .string name, .int .i64 kind] w (RdPost w F E d p lk k of D (openR D S K name kind) K next name kind true) := by
  have HR := Hid.intro_ (readt_any F E d p lk k of D S K next name kind true w h hK hn0 hn1)
  clear hn0 hn1
  go_enter Tryz.func154, Tryz.ntmps154
  go_wp2_with fail
  refine HR.out.mono ?_
  rintro e w1 ⟨F', h1, s1, hc⟩
  rcases hc with ⟨hn, rfl⟩ | ⟨hz, b, rfl, hb, hnb, hblk⟩
  · have HN := Hid.intro_ hn
    clear hn
    go_wp2_with fail
    go_ret2
    exact ⟨F', h1, s1, .inl ⟨HN.out, rfl⟩⟩
  · have HZ := Hid.intro_ hz
    have HB := Hid.intro_ hblk
    clear hz hblk
    go_wp2_with fail
    go_ret2
    exact ⟨F', h1, s1, .inr ⟨HZ.out, b, rfl, hb, hnb, HB.out⟩⟩
end Go.Proofs.YtadipinnbehhhaaGreatDoor
namespace Go.Proofs.YtadipinnbehhhaaGreatDoor
open Go.RowKit

structure RdSt where
  name : ByteArray
  kind : Nat
  dead : Int
  done : Bool
  back : Bool
  blocks : Int
  place : Int
  list : List R4
structure LstAt (w : World) (G : Nat → Prop) (E : Nat → Addr) (v : Value) (l : List R4) : Prop where
  form : ∃ A cap, v = .slice A l.length cap ∧ l.length ≤ cap ∧ (∀ a, A = some a → a.spot = none) ∧ Rd w A (rcCells l)
  lt : ∀ g, v.ownBlock = some g → g < w.heap.size
  off : ∀ g, v.ownBlock = some g → Off E G g
  oks : ∀ r ∈ l, r.Ok
section
variable {w w' : World} {G G' H : Nat → Prop} {E : Nat → Addr} {v : Value} {l : List R4}
theorem LstAt.keep (h : LstAt w G E v l) (k : Keep H w w') (hn : ∀ g, v.ownBlock = some g → ¬ H g) : LstAt w' G E v l := by
  obtain ⟨A, cap, rfl, hc, hs, hr⟩ := h.form
  refine ⟨⟨A, cap, rfl, hc, hs, hr.keep k (fun ad e _ => hn ad.block (by rw [e]; rfl))⟩, fun g hg => Nat.lt_of_lt_of_le (h.lt g hg) k.size, h.off, h.oks⟩
theorem LstAt.nil (w : World) (G : Nat → Prop) (E : Nat → Addr) : LstAt w G E (.slice none 0 0) [] :=
  ⟨⟨none, 0, rfl, Nat.le_refl _, fun a e => (by cases e), Rd.nil _ _⟩, fun g hg => by simp [Value.ownBlock] at hg, fun g hg => by simp [Value.ownBlock] at hg, fun r hr => by simp at hr⟩
end

structure RdrAt (c : Cx) (w : World) (b : Nat) (G : Nat → Prop) (s : RSt) (x : RdSt) : Prop where mk ::
  out : ∃ G0 v, G = WF G0 b v ∧ RmAt c w G0 s ∧ Blk w b 267 (rdCells c.k x.name x.kind v x.dead x.done x.back x.blocks x.place) ∧ Off c.E G0 b ∧ LstAt w (fun y => G0 y ∨ y = b) c.E v x.list
  kind : 1 ≤ x.kind ∧ x.kind ≤ 255
  len : x.list.length ≤ c.K
  dead : x.dead = 0 ∨ kills x.dead = true
def RdrTo (c : Cx) (b : Nat) (G : Nat → Prop) (s' : RSt) (x' : RdSt) (w w' : World) : Prop := ∃ G', RdrAt c w' b G' s' x' ∧ Stp w G w' G'
section
variable {c : Cx} {w w' w2 w0 : World} {b : Nat} {G G' : Nat → Prop} {s s' s2 : RSt} {x x' x2 : RdSt}
theorem RdrAt.env (h : RdrAt c w b G s x) : Envs c.E w G := by
  obtain ⟨G0, v, rfl, hr, hb, nb, hl⟩ := h.out
  have e := hr.env
  refine ⟨⟨e.errs.errs, fun i hi hf => ?_, fun i hi hf => ?_⟩, e.halves, e.magic, fun hf => ?_, fun hf => ?_⟩
  · rcases hf with (hf | hf) | hf
    · exact e.errs.nv i hi hf
    · exact (nb.2.1 i hi).1 hf
    · exact ((hl.off _ hf).2.1 i hi).1 rfl
  · rcases hf with (hf | hf) | hf
    · exact e.errs.nb i hi hf
    · exact (nb.2.1 i hi).2 hf
    · exact ((hl.off _ hf).2.1 i hi).2 rfl
  · rcases hf with (hf | hf) | hf
    · exact e.nh hf
    · exact nb.2.2.1 hf.symm
    · exact (hl.off _ hf).2.2.1 rfl
  · rcases hf with (hf | hf) | hf
    · exact e.nm hf
    · exact nb.2.2.2 hf.symm
    · exact (hl.off _ hf).2.2.2 rfl
theorem RdrAt.lt (h : RdrAt c w b G s x) (y : Nat) (hy : G y) : y < w.heap.size := by
  obtain ⟨G0, v, rfl, hr, hb, nb, hl⟩ := h.out
  rcases hy with (hy | hy) | hy
  · exact hr.lt y hy
  · rw [hy]; exact hb.lt
  · exact hl.lt y hy
theorem RdrTo.refl (h : RdrAt c w b G s x) : RdrTo c b G s x w w := ⟨G, h, Stp.refl _ _⟩
theorem RdrAt.nil (h : RdrAt c w b G s x) (k : Keep Nil w w') : RdrAt c w' b G s x := by
  obtain ⟨G0, v, rfl, hr, hb, nb, hl⟩ := h.out
  exact ⟨⟨G0, v, rfl, hr.nil k, hb.keep k (fun h => h), nb, hl.keep k (fun _ _ h => h)⟩, h.kind, h.len, h.dead⟩
theorem RdrTo.nil (h : RdrTo c b G s' x' w w') (k : Keep Nil w' w2) : RdrTo c b G s' x' w w2 := by
  obtain ⟨G1, h1, s1⟩ := h
  exact ⟨G1, h1.nil k, s1.then_nil k⟩
theorem RdrTo.from_nil (h : RdrTo c b G s' x' w w') (k : Keep Nil w0 w) : RdrTo c b G s' x' w0 w' := by
  obtain ⟨G1, h1, s1⟩ := h
  exact ⟨G1, h1, (Stp.of_nil k _).trans s1⟩
theorem RdrAt.at_rm {G0 : Nat → Prop} {v : Value} (h : RdrAt c w b (WF G0 b v) s x) (_hr : RmAt c w G0 s) (hb : Blk w b 267 (rdCells c.k x.name x.kind v x.dead x.done x.back x.blocks x.place)) (nb : Off c.E G0 b) (hl : LstAt w (fun y => G0 y ∨ y = b) c.E v x.list) (t : RmTo c G0 s' w w') : RdrTo c b (WF G0 b v) s' x w w' := by
  obtain ⟨G1, h1, s1⟩ := t
  have s2 := s1.part (fun y => y = b)
  have s3 := s2.part (fun y => v.ownBlock = some y)
  refine ⟨WF G1 b v, ⟨⟨G1, v, rfl, h1, hb.keep s1.keep nb.1, nb.step hb.lt s1, ?_⟩, h.kind, h.len, h.dead⟩, s3⟩
  have hl2 := hl.keep s1.keep (fun g hg hf => (hl.off g hg).1 (.inl hf))
  refine ⟨hl2.form, hl2.lt, fun g hg => ?_, hl.oks⟩
  exact (hl.off g hg).step (hl.lt g hg) s2
end
end Go.Proofs.YtadipinnbehhhaaGreatDoor
namespace Go.Proofs.YtadipinnbehhhaaGreatDoor
open Go.RowKit

theorem RdrAt.cells {c : Cx} {w : World} {b : Nat} {G : Nat → Prop} {s : RSt} {x : RdSt} (h : RdrAt c w b G s x) : ∃ A cap, x.list.length ≤ cap ∧ Blk w b 267 (rdCells c.k x.name x.kind (.slice A x.list.length cap) x.dead x.done x.back x.blocks x.place) := by
  obtain ⟨G0, v, _, _, hb, _, hl⟩ := h.out
  obtain ⟨A, cap, rfl, hc, _⟩ := hl.form
  exact ⟨A, cap, hc, hb⟩
set_option maxRecDepth 100000 in
set_option maxHeartbeats 1000000 in
theorem load_still (c : Cx) (w : World) (b : Nat) (G : Nat → Prop) (s : RSt) (x : RdSt) (h : RdrAt c w b G s x) (t : Bool) (n : Int)
    (hq : (¬ stSt x.done x.dead = 0 ∧ t = false ∧ n = stSt x.done x.dead) ∨ (stSt x.done x.dead = 0 ∧ 1 ≤ x.list.length ∧ t = true ∧ n = 0) ∨ (stSt x.done x.dead = 0 ∧ x.list.length = 0 ∧ (x.place < 0 ∨ (0 ≤ x.place ∧ x.blocks ≤ x.place)) ∧ t = false ∧ n = 0)) :
    Calls Tryz.prog 201 #[.pointer (some ⟨b, 0, none⟩)] w fun e w' => e = .returned (.tuple #[.bool t, .int .i64 n]) ∧ Keep Nil w w' := by
  obtain ⟨A, cap, hcap, hb⟩ := h.cells
  have hs := Hid.intro_ (state_any b c.k x.dead x.done w (hb.at_ 0) (hb.at_ 4) (hb.at_ 5))
  have c3 : w.cell? ⟨b, 3, none⟩ = some (.slice A x.list.length cap) := hb.at_ 3
  have c7 : w.cell? ⟨b, 7, none⟩ = some (.int .i64 x.blocks) := hb.at_ 7
  have c8 : w.cell? ⟨b, 8, none⟩ = some (.int .i64 x.place) := hb.at_ 8
  generalize x.list.length = L at *
  generalize x.blocks = B at *
  generalize x.place = P at *
  generalize stSt x.done x.dead = q at *
  clear h hb
  rcases hq with ⟨h0, rfl, rfl⟩ | ⟨rfl, h1, rfl, rfl⟩ | ⟨rfl, h1, h2, rfl, rfl⟩
  · have e0 : (n == 0) = false := by simpa using h0
    clear h0
    go_enter Tryz.func201, Tryz.ntmps201
    go_wp2_with (go_at_call 149; refine hs.out.mono ?_; rintro e w' ⟨rfl, hw⟩; obtain rfl := hw.symm)
    go_ret2
    exact ⟨rfl, Keep.refl _ _⟩
  · have h1' : (0 : Int) < (L : Int) := by omega
    clear h1
    go_enter Tryz.func201, Tryz.ntmps201
    go_wp2_with (go_at_call 149; refine hs.out.mono ?_; rintro e w' ⟨rfl, hw⟩; obtain rfl := hw.symm)
    go_ret2
    exact ⟨rfl, Keep.refl _ _⟩
  · obtain rfl := h1
    rcases h2 with h2 | ⟨h2, h3⟩
    · go_enter Tryz.func201, Tryz.ntmps201
      go_wp2_with (go_at_call 149; refine hs.out.mono ?_; rintro e w' ⟨rfl, hw⟩; obtain rfl := hw.symm)
      go_quiet (fail)
      go_wp2_with fail
      go_ret2
      exact ⟨rfl, (Keep.refl Nil w).drewN _⟩
    · have h2' : ¬ P < 0 := by omega
      have h2d : decide (P < 0) = false := by simpa using h2'
      go_enter Tryz.func201, Tryz.ntmps201
      go_wp2_with (go_at_call 149; refine hs.out.mono ?_; rintro e w' ⟨rfl, hw⟩; obtain rfl := hw.symm)
      go_quiet (fail)
      go_wp2_with fail
      go_ret2
      exact ⟨rfl, (Keep.refl Nil w).drewN _⟩
end Go.Proofs.YtadipinnbehhhaaGreatDoor
namespace Go.Proofs.YtadipinnbehhhaaGreatDoor
open Go.RowKit

section
variable {c : Cx} {w w' : World} {b : Nat} {s : RSt} {x' : RdSt}
theorem RdrAt.at_own {G0 : Nat → Prop} {v v' : Value} (hr : RmAt c w G0 s) (nb : Off c.E G0 b) (hlb : b < w.heap.size) (hlv : ∀ g, v.ownBlock = some g → Off c.E (fun y => G0 y ∨ y = b) g)
    (k : Keep (fun y => y = b ∨ v.ownBlock = some y) w w') (hb : Blk w' b 267 (rdCells c.k x'.name x'.kind v' x'.dead x'.done x'.back x'.blocks x'.place)) (hl : ∃ A cap, v' = .slice A x'.list.length cap ∧ x'.list.length ≤ cap ∧ (∀ a, A = some a → a.spot = none) ∧ Rd w' A (rcCells x'.list)) (hlt2 : ∀ g, v'.ownBlock = some g → g < w'.heap.size) (hrec : ∀ r ∈ x'.list, r.Ok)
    (hv : v'.ownBlock = none ∨ v'.ownBlock = v.ownBlock ∨ ∃ g, v'.ownBlock = some g ∧ w.heap.size ≤ g) (hk : 1 ≤ x'.kind ∧ x'.kind ≤ 255) (hle : x'.list.length ≤ c.K) (hd : x'.dead = 0 ∨ kills x'.dead = true) : RdrTo c b (WF G0 b v) s x' w w' := by
  have hoff : ∀ y, (y = b ∨ v.ownBlock = some y) → Off c.E G0 y := by
    rintro y (rfl | hy)
    · exact nb
    · exact ⟨fun hg => (hlv y hy).1 (.inl hg), (hlv y hy).2⟩
  have hr' : RmAt c w' G0 s := hr.keep k (fun y hy hf => (hoff y hf).1 hy)
    ⟨⟨hr.env.errs.errs, fun i hi hf => ((hoff _ hf).2.1 i hi).1 rfl, fun i hi hf => ((hoff _ hf).2.1 i hi).2 rfl⟩, hr.env.halves, hr.env.magic, fun hf => (hoff _ hf).2.2.1 rfl, fun hf => (hoff _ hf).2.2.2 rfl⟩
  have hG : ∀ y, (G0 y ∨ y = b) → y < w.heap.size := fun y hy => hy.elim (hr.lt y) (fun e => by rw [e]; exact hlb)
  have henv : Envs c.E w (fun y => G0 y ∨ y = b) :=
    ⟨⟨hr.env.errs.errs, fun i hi hf => hf.elim (hr.env.errs.nv i hi) (nb.2.1 i hi).1, fun i hi hf => hf.elim (hr.env.errs.nb i hi) (nb.2.1 i hi).2⟩, hr.env.halves, hr.env.magic, fun hf => hf.elim hr.env.nh (fun e => nb.2.2.1 e.symm), fun hf => hf.elim hr.env.nm (fun e => nb.2.2.2 e.symm)⟩
  refine ⟨WF G0 b v', ⟨⟨G0, v', rfl, hr', hb, nb, hl, hlt2, fun g hg => ?_, hrec⟩, hk, hle, hd⟩, ⟨k.mono (fun y _ hy => ?_), fun y hy => ?_⟩⟩
  · rcases hv with h0 | h0 | ⟨g', h0, hg'⟩
    · rw [h0] at hg; cases hg
    · exact hlv g (by rw [← h0]; exact hg)
    · rw [h0] at hg
      injection hg with hg
      subst hg
      exact Off.new henv hG hg'
  · exact hy.elim (fun e => .inl (.inr e)) .inr
  · rcases hy with hy | hy
    · exact .inl (.inl hy)
    · rcases hv with h0 | h0 | ⟨g', h0, hg'⟩
      · rw [h0] at hy; cases hy
      · exact .inl (.inr (by rw [← h0]; exact hy))
      · rw [h0] at hy
        injection hy with hy
        subst hy
        exact .inr hg'
end

theorem RdrAt.via {c : Cx} {w : World} {b : Nat} {G : Nat → Prop} {s : RSt} {x : RdSt} (h : RdrAt c w b G s x) : ∃ G0, RmAt c w G0 s ∧ (∀ y, G0 y → G y) ∧ ∀ s' w', RmTo c G0 s' w w' → RdrTo c b G s' x w w' := by
  obtain ⟨G0, v, rfl, hr, hb, nb, hl⟩ := h.out
  exact ⟨G0, hr, fun y hy => .inl (.inl hy), fun s' w' t => h.at_rm hr hb nb hl t⟩
theorem RdrAt.ended {c : Cx} {w : World} {b : Nat} {G : Nat → Prop} {s : RSt} {x : RdSt} (h : RdrAt c w b G s x) : RdrTo c b G s { x with done := true, list := [] } w ((w.setCell ⟨b, 5, none⟩ (.bool true)).setCell ⟨b, 3, none⟩ (.slice none 0 0)) := by
  obtain ⟨G0, v, rfl, hr, hb, nb, hl⟩ := h.out
  have k : Keep (fun y => y = b) w ((w.setCell ⟨b, 5, none⟩ (.bool true)).setCell ⟨b, 3, none⟩ (.slice none 0 0)) :=
    ((Keep.refl (fun y => y = b) w).setCell (p := ⟨b, 5, none⟩) (fun _ => rfl) _).setCell (p := ⟨b, 3, none⟩) (fun _ => rfl) _
  exact RdrAt.at_own (x' := { x with done := true, list := [] }) (v' := .slice none 0 0) hr nb hb.lt hl.off (k.mono (fun y _ e => .inl e)) ((hb.set_ 5 (.bool true)).set_ 3 (.slice none 0 0)) ⟨none, 0, rfl, Nat.le_refl _, (fun a e => (by cases e)), Rd.nil _ _⟩ (fun g hg => by simp [Value.ownBlock] at hg) (fun r hr => by simp at hr) (.inl rfl) h.kind (Nat.zero_le _) h.dead
def rend (c : Cx) (s : RSt) (x : RdSt) : RSt × RdSt := ({ s with S := s.S.give c.K }, { x with done := true, list := [] })
set_option maxRecDepth 100000 in
set_option maxHeartbeats 2000000 in
theorem end_r (c : Cx) (w : World) (b : Nat) (G : Nat → Prop) (s : RSt) (x : RdSt) (h : RdrAt c w b G s x) :
    Calls Tryz.prog 150 #[.pointer (some ⟨b, 0, none⟩)] w fun e w' => (e = .returned (.tuple #[]) ∧ RdrTo c b G (rend c s x).1 (rend c s x).2 w w') := by
  obtain ⟨A, cap, _, hb⟩ := h.cells
  have x0 : w.cell? ⟨b, 0, none⟩ = some (.pointer (some ⟨c.k, 0, none⟩)) := hb.at_ 0
  have x3 : w.cell? ⟨b, 3, none⟩ = some (.slice A x.list.length cap) := hb.at_ 3
  have x5 : w.cell? ⟨b, 5, none⟩ = some (.bool x.done) := hb.at_ 5
  have y3 := hb.fr 3
  have y5 := hb.fr 5
  obtain ⟨G1, h1, s1⟩ := h.ended
  obtain ⟨A1, cap1, _, hb1⟩ := h1.cells
  obtain ⟨G0, hr1, _, hvia⟩ := (h1.nil ((Keep.refl Nil _).drew)).via
  have t0 := Hid.intro_ (show World.cell? _ ⟨b, 0, none⟩ = some (.pointer (some ⟨c.k, 0, none⟩)) from hb1.at_ 0)
  have t1 := Hid.intro_ (show World.cell? _ ⟨c.k, 1, none⟩ = some (.pointer (some ⟨c.p, 0, none⟩)) from hr1.desk.at_ 1)
  have t2 := Hid.intro_ (show World.cell? _ ⟨c.k, 2, none⟩ = some (.int .i64 c.K) from hr1.desk.at_ 2)
  have S1 := Hid.intro_ s1
  clear s1
  go_enter Tryz.func150, Tryz.ntmps150
  go_wp2
  generalize (w.setCell ⟨b, 5, none⟩ (.bool true)).setCell ⟨b, 3, none⟩ (.slice none 0 0) = X at *
  have t0' := t0.out
  have t1' := t1.out
  have t2' := t2.out
  go_still_tail 14, (by kernel_rfl)
  change wpList _ _ _ _ _ X.drew
  go_wp2_with fail
  refine (give_rm hr1 c.K).mono ?_
  rintro e w2 ⟨rfl, ht⟩
  go_wp2_with fail
  go_end0
  refine ⟨rfl, ?_⟩
  obtain ⟨G3, h3, s3⟩ := hvia _ _ ht
  exact ⟨G3, h3, (S1.out.then_nil ((Keep.refl Nil _).drew)).trans s3⟩
def rclose (c : Cx) (s : RSt) (x : RdSt) : Int × RSt × RdSt := if stSt x.done x.dead = 6 then (6, s, x) else (0, (rend c s x).1, (rend c s x).2)
set_option maxRecDepth 100000 in
set_option maxHeartbeats 1000000 in
theorem rclose_any (c : Cx) (w : World) (b : Nat) (G : Nat → Prop) (s : RSt) (x : RdSt) (h : RdrAt c w b G s x) :
    Calls Tryz.prog 93 #[.pointer (some ⟨b, 0, none⟩)] w fun e w' => e = .returned (.int .i64 (rclose c s x).1) ∧ RdrTo c b G (rclose c s x).2.1 (rclose c s x).2.2 w w' := by
  obtain ⟨A, cap, _, hb⟩ := h.cells
  have hs := Hid.intro_ (state_any b c.k x.dead x.done w (hb.at_ 0) (hb.at_ 4) (hb.at_ 5))
  have HE := Hid.intro_ (end_r c w b G s x h)
  obtain ⟨q, hq⟩ : ∃ q, q = stSt x.done x.dead := ⟨_, rfl⟩
  unfold rclose
  rw [← hq] at hs ⊢
  clear hq hb
  by_cases h6 : q = 6
  · subst h6
    rw [if_pos rfl]
    go_enter Tryz.func93, Tryz.ntmps93
    go_wp2_with (go_at_call 149; refine hs.out.mono ?_; rintro e w' ⟨rfl, hw⟩; obtain rfl := hw.symm)
    go_ret
    exact ⟨rfl, RdrTo.refl h⟩
  · rw [if_neg h6]
    have e6 : (q == 6) = false := by simpa using h6
    clear h6
    go_enter Tryz.func93, Tryz.ntmps93
    go_wp2_with (first
      | (go_at_call 149; refine hs.out.mono ?_; rintro e w' ⟨rfl, hw⟩; obtain rfl := hw.symm)
      | (go_at_call 150; refine HE.out.mono ?_; rintro e w2 ⟨rfl, ht⟩))
    go_ret
    exact ⟨rfl, ht⟩
end Go.Proofs.YtadipinnbehhhaaGreatDoor
namespace Go.Proofs.YtadipinnbehhhaaGreatDoor
open Go.RowKit

structure RdP (c : Cx) (G : Nat → Prop) (X : Int × PSt) (s : RSt) (name : ByteArray) (kind : Nat) (back : Bool) (w : World) (e : Ending) (w' : World) : Prop where mk ::
  out : (¬ X.1 = 0 ∧ e = .returned (.tuple #[.pointer none, .int .i64 X.1]) ∧ RmTo c G { s with S := X.2 } w w') ∨
    (X.1 = 0 ∧ ∃ b, e = .returned (.tuple #[.pointer (some ⟨b, 0, none⟩), .int .i64 0]) ∧ w.heap.size ≤ b ∧ RdrTo c b G { s with S := X.2 } { name := name, kind := kind, dead := 0, done := false, back := back, blocks := (s.D.readable name).1, place := if back then (s.D.readable name).1 - 1 else 0, list := [] } w w')
theorem openR_kind {D : DSt} {S : PSt} {K : Int} {name : ByteArray} {kind : Int} (h : (openR D S K name kind).1 = 0) : 1 ≤ kind ∧ kind ≤ 5 := by
  unfold openR at h
  split at h
  · simp at h
  · rename_i h2; omega
theorem rd_rm {c : Cx} {w : World} {F : Nat → Prop} {s : RSt} {name : ByteArray} {kind : Nat} {back : Bool} (h : RmAt c w (RF F c.p c.lk c.k) s) {e : Ending} {w' : World}
    (hw : RdPost w F c.E c.d c.p c.lk c.k c.of s.D (openR s.D s.S c.K name kind) c.K s.next name kind back e w') : RdP c (RF F c.p c.lk c.k) (openR s.D s.S c.K name kind) s name kind back w e w' := by
  obtain ⟨F', h1, s1, hc⟩ := hw.out
  have hto := h.step (D' := s.D) ⟨F', h1, s1⟩ rfl
  have hr' : RmAt c w' (RF F' c.p c.lk c.k) { s with S := (openR s.D s.S c.K name kind).2 } := ⟨⟨F', rfl, h1⟩, h.env.step s1, h.blk, h.fitK, h.posK⟩
  rcases hc with ⟨hn, he⟩ | ⟨hz, b, he, hb, hnb, hblk⟩
  · exact ⟨.inl ⟨hn, he, hto⟩⟩
  · have hk := openR_kind hz
    refine ⟨.inr ⟨hz, b, he, hb, WF (RF F' c.p c.lk c.k) b (.slice none 0 0), ⟨⟨_, _, rfl, hr', hblk, ?_, LstAt.nil _ _ _⟩, ⟨(by omega : 1 ≤ kind), (by omega : kind ≤ 255)⟩, Nat.zero_le _, .inl rfl⟩, ⟨s1.keep, fun y hy => ?_⟩⟩⟩
    · have := Off.new h.env h.lt hb
      exact ⟨hnb, this.2⟩
    · rcases hy with (hy | hy) | hy
      · exact s1.grow y hy
      · exact .inr (by rw [hy]; exact hb)
      · simp [Value.ownBlock] at hy
theorem tread_rm (c : Cx) (w : World) (G : Nat → Prop) (s : RSt) (name : ByteArray) (kind : Nat) (h : RmAt c w G s) (hn0 : 0 ≤ (s.D.readable name).1) (hn1 : (s.D.readable name).1 ≤ 1099511627776) :
    Calls Tryz.prog 101 #[.pointer (some ⟨c.k, 0, none⟩), .string name, .int .i64 kind] w (RdP c G (openR s.D s.S c.K name kind) s name kind false w) := by
  obtain ⟨F, rfl, hd⟩ := h.out
  have hp := h.posK
  exact (tread_any F c.E c.d c.p c.lk c.k c.of s.D s.S c.K s.next name kind w hd (by omega) hn0 hn1).mono fun e w' hw => rd_rm h hw
theorem tback_rm (c : Cx) (w : World) (G : Nat → Prop) (s : RSt) (name : ByteArray) (kind : Nat) (h : RmAt c w G s) (hn0 : 0 ≤ (s.D.readable name).1) (hn1 : (s.D.readable name).1 ≤ 1099511627776) :
    Calls Tryz.prog 154 #[.pointer (some ⟨c.k, 0, none⟩), .string name, .int .i64 kind] w (RdP c G (openR s.D s.S c.K name kind) s name kind true w) := by
  obtain ⟨F, rfl, hd⟩ := h.out
  have hp := h.posK
  exact (tback_any F c.E c.d c.p c.lk c.k c.of s.D s.S c.K s.next name kind w hd (by omega) hn0 hn1).mono fun e w' hw => rd_rm h hw
end Go.Proofs.YtadipinnbehhhaaGreatDoor
namespace Go.Proofs.YtadipinnbehhhaaGreatDoor
open Go.RowKit

theorem read_block (D : DSt) (s : ByteArray) (i : Int) : (D.read s i).1.block = D.block := by
  unfold DSt.read
  split
  · rfl
  split
  · rfl
  split
  · rfl
  split
  · rfl
  split <;> rfl
theorem dread_rm (c : Cx) (w : World) (G : Nat → Prop) (s : RSt) (name : ByteArray) (i : Int) (h : RmAt c w G s) :
    Calls Tryz.prog 251 #[.pointer (some ⟨c.d, 0, none⟩), .string name, .int .i64 i] w fun e w' => ∃ u, e = .returned (.tuple #[u, .int .i64 (s.D.read name i).2.1]) ∧ RmTo c G { s with D := (s.D.read name i).1 } w w' ∧
      (((s.D.read name i).2.2 = none ∧ u = .slice none 0 0) ∨ ∃ bs, (s.D.read name i).2.2 = some bs ∧ BsAt w' (fun b => w.heap.size ≤ b) u bs) := by
  obtain ⟨F, rfl, hd⟩ := h.out
  obtain ⟨R, hD⟩ := hd.disk
  exact (dread_any c.d s.D R F c.E name i w hD hd.envd).mono fun _ _ ⟨u, he, ht, hb⟩ => ⟨u, he, h.step (hd.at_disk ht) (read_block _ _ _), hb⟩
end Go.Proofs.YtadipinnbehhhaaGreatDoor
