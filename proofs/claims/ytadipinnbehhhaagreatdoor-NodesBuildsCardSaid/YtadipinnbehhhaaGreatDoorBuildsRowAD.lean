/- The reference's Encode: the walk. Disk: Append: what it does to the file. Disk: Append, every way. Disk: Append in one. -/
import Derived.Deep.Cut
import Derived.Deep.CutRange
import Derived.Deep.RegionWith
import Derived.StillTailTactics
import Derived.Test.YtadipinnbehhhaaGreatDoorBuildsRowAC
namespace Go.Proofs.YtadipinnbehhhaaGreatDoor
open Go.RowKit

theorem six_own (w : World) (a b c d e f : Value) : (w.alloc (.cells #[a, b, c, d, e, f] 5)).ownsRow w.heap.size 5 1 (.slice (some ⟨w.heap.size, 0, none⟩) 6 6) 6 [a, b, c, d, e, f] :=
  ⟨rfl, .inr ⟨w.heap.size, 6, #[a, b, c, d, e, f], rfl, Nat.le_refl _, Blk.new w _ _, Nat.le_refl _, by decide, rfl, rfl⟩⟩

theorem rc_at : ∀ (l : List R4) (k j : Nat) (q : R4), l[k]? = some q → j < 4 → (rcCells l)[k * 4 + j]? = some (.int .u64 ((q.ws.getD j 0 : Nat) : Int))
  | [], _, _, _, h, _ => by simp at h
  | r :: l, 0, j, q, h, hj => by
    simp only [List.getElem?_cons_zero, Option.some.injEq] at h
    subst h
    have e : rcCells (r :: l) = (r.ws.map fun (x : Nat) => Value.int .u64 x) ++ rcCells l := rfl
    rw [e, List.getElem?_append_left (by simp [R4.ws]; omega)]
    match j, hj with
    | 0, _ => rfl
    | 1, _ => rfl
    | 2, _ => rfl
    | 3, _ => rfl
  | r :: l, k + 1, j, q, h, hj => by
    have ih := rc_at l k j q (by simpa using h) hj
    have e : rcCells (r :: l) = (r.ws.map fun (x : Nat) => Value.int .u64 x) ++ rcCells l := rfl
    rw [e, List.getElem?_append_right (by simp [R4.ws]; omega)]
    have : (k + 1) * 4 + j - (r.ws.map fun (x : Nat) => Value.int .u64 (x : Int)).length = k * 4 + j := by simp [R4.ws]; omega
    rw [this]
    exact ih
theorem ws_lt {q : R4} (h : q.Ok) (j : Nat) : q.ws.getD j 0 < 18446744073709551616 := by
  obtain ⟨a, b, c, d⟩ := h
  match j with
  | 0 => exact a
  | 1 => exact b
  | 2 => exact c
  | 3 => exact d
  | n + 4 => simp [R4.ws]
theorem ws_take (q : R4) (j : Nat) (hj : j < 4) : q.ws.take (j + 1) = q.ws.take j ++ [q.ws.getD j 0] := by
  match j, hj with
  | 0, _ => rfl
  | 1, _ => rfl
  | 2, _ => rfl
  | 3, _ => rfl

theorem flat8_len (xs : List Nat) : (xs.flatMap (fun x => loB x 8)).length = 8 * xs.length := by
  induction xs with
  | nil => rfl
  | cons a l ih => rw [List.flatMap_cons, List.length_append, ih, loB_len]; simp; omega
theorem own_base {w : World} {base : Nat} {e : TypeId} {size n : Nat} {v : Value} {xs : List Value} (h : w.ownsRow base e size v n xs) {g : Nat} (hg : v.ownBlock = some g) : base ≤ g := (h.lt g hg).1
theorem keep_own {w w1 w2 : World} {base : Nat} {e : TypeId} {size n : Nat} {v : Value} {xs : List Value} (k : Keep Nil w w1) (h : w1.ownsRow base e size v n xs) (hb : w.heap.size ≤ base) (k2 : Keep (fun b => v.ownBlock = some b) w1 w2) : Keep Nil w w2 :=
  k.trans k2 (fun b hlt e => by have := own_base h e; omega)

theorem own_slice {w : World} {base : Nat} {e : TypeId} {n : Nat} {v : Value} {xs : List Value} (h : w.ownsRow base e 1 v n xs) (hn : 0 < n) : ∃ g cap, v = .slice (some ⟨g, 0, none⟩) n cap ∧ n ≤ cap ∧ base ≤ g ∧ ∀ (j : Nat) (u : Value), xs[j]? = some u → w.cell? ⟨g, 0 + j, none⟩ = some u := by
  rcases h.2 with ⟨_, h0⟩ | ⟨g, cap, cur, e, hb, hh, hle, _⟩
  · omega
  · subst e
    refine ⟨g, cap, rfl, hle, hb, fun j u hu => ?_⟩
    obtain ⟨ad, e, hc⟩ := own_rd h j u hu
    injection e with e
    subst e
    by_cases h0 : j = 0
    · subst h0; simpa [Addr.add] using hc
    · simpa [Addr.add, h0] using hc
theorem natB_cell {bs : List Int} (h : ∀ x ∈ bs, 0 ≤ x ∧ x ≤ 255) {j c : Nat} (hj : (natB bs)[j]? = some c) : (by8 bs)[j]? = some (.int .u8 (c : Int)) ∧ c < 256 := by
  unfold natB at hj
  rw [List.getElem?_map, Option.map_eq_some_iff] at hj
  obtain ⟨x, hx, rfl⟩ := hj
  have := h x (List.mem_of_getElem? hx)
  refine ⟨?_, by omega⟩
  unfold by8
  rw [List.getElem?_map, hx, Option.map_some]
  congr 2
  omega

theorem rnumber_m (base : Nat) (s0 : Value) (v n : Nat) (x m : Int) (xs : List Int) (w : World) (ho : w.ownsRow base 5 1 s0 xs.length (by8 xs)) (hx : x = (v : Int)) (hm : m = (n : Int)) (hv : v < 18446744073709551616) (hn : n + xs.length ≤ 1099511627776) (hb : base ≤ w.heap.size) :
    Calls Tryz.prog 200 #[s0, .int .u64 x, .int .i64 m] w fun e w' => ∃ s, e = .returned s ∧ w'.ownsRow base 5 1 s (xs ++ loB v n).length (by8 (xs ++ loB v n)) ∧ Keep (fun b => s0.ownBlock = some b) w w' ∧ (s.ownBlock = s0.ownBlock ∨ ∃ g, s.ownBlock = some g ∧ w.heap.size ≤ g) := by
  subst hx hm
  exact rnumber_any base s0 v n xs w ho hv hn hb

set_option maxRecDepth 100000 in
set_option maxHeartbeats 4000000 in
theorem rencode_good (kind place block lg lo lc : Nat) (l : List R4) (w : World) (hk : 1 ≤ kind ∧ kind ≤ 255) (hp : place < 9223372036854775808) (hb : 64 ≤ block ∧ block ≤ 65536 ∧ block % 32 = 0) (hl : 1 ≤ l.length) (hf : 32 * l.length + 32 ≤ block)
    (hc : ∀ (j : Nat) (u : Value), (rcCells l)[j]? = some u → w.cell? ⟨lg, lo + j, none⟩ = some u) (hr : ∀ r ∈ l, r.Ok) :
    Calls Tryz.prog 152 #[.int .i64 kind, .int .i64 place, .slice (some ⟨lg, lo, none⟩) l.length lc, .int .i64 block] w fun e w' =>
      ∃ s, e = .returned (.tuple #[s, .int .i64 0]) ∧ w'.ownsRow w.heap.size 5 1 s block (by8 (encB kind place l block)) ∧ Keep Nil w w' := by
  have HC := Hid.intro_ hc
  have HR := Hid.intro_ hr
  have hfit : fit block = ((block / 32 - 1 : Nat) : Int) := by
    unfold fit
    rw [if_neg (by omega)]; omega
  have hft := fun w => rfit_any block w
  rw [hfit] at hft
  have hfz : ¬ ((block / 32 - 1 : Nat) : Int) = 0 := by omega
  have hfl : ¬ ((block / 32 - 1 : Nat) : Int) < (l.length : Int) := by omega
  have hq0 : (((block / 32 - 1 : Nat) : Int) == 0) = false := by rw [beq_eq_false_iff_ne]; omega
  have hl16 : l.length ≤ 2048 := by omega
  generalize block / 32 - 1 = fb at *
  have hlz : ¬ ((l.length : Int) = 0) := by omega
  have hlq : ((l.length : Int) == 0) = false := by rw [beq_eq_false_iff_ne]; omega
  clear hc hr hfit
  have hsix : (w.alloc (.cells #[.int .u8 83, .int .u8 84, .int .u8 82, .int .u8 65, .int .u8 1, .int .u8 kind] 5)).ownsRow w.heap.size 5 1 (.slice (some ⟨w.heap.size, 0, none⟩) 6 6) [83, 84, 82, 65, 1, (kind : Int)].length (by8 [83, 84, 82, 65, 1, (kind : Int)]) := six_own w _ _ _ _ _ _
  go_enter Tryz.func152, Tryz.ntmps152
  go_wp2_with (first
    | (go_at_call 10; refine (hft _).mono ?_; rintro e w' ⟨rfl, hw⟩; obtain rfl := hw.symm)
    | (go_at_call 200
       with_reducible refine (rnumber_m w.heap.size (.slice (some ⟨w.heap.size, 0, none⟩) 6 6) l.length 2 (l.length : Int) 2 [83, 84, 82, 65, 1, (kind : Int)] _ hsix rfl rfl (by omega) (by simp) (by simp)).mono ?_
       rintro e w1 ⟨s1, rfl, ho1, hk1, hb1⟩)
    | (go_at_call 200
       with_reducible refine (rnumber_m w.heap.size s1 place 8 (place : Int) 8 ([83, 84, 82, 65, 1, (kind : Int)] ++ loB l.length 2) _ ho1 rfl rfl (by omega) (by simp [loB_len]) (by have := hk1.size; simp at this; omega)).mono ?_
       rintro e w2 ⟨s2, rfl, ho2, hk2, hb2⟩)
    | (go_at_call 200
       with_reducible refine (rnumber_m w.heap.size s2 0 12 0 12 ([83, 84, 82, 65, 1, (kind : Int)] ++ loB l.length 2 ++ loB place 8) _ ho2 rfl rfl (by omega) (by simp [loB_len]) (by have := hk1.size; have := hk2.size; simp at *; omega)).mono ?_
       rintro e w3 ⟨s3, rfl, ho3, hk3, hb3⟩))
  have z3 : w.heap.size ≤ w3.heap.size := by have := hk1.size; have := hk2.size; have := hk3.size; simp at *; omega
  have kk : Keep Nil w w3 := keep_own (keep_own (keep_own ((Keep.refl Nil w).alloc _) hsix (Nat.le_refl _) hk1) ho1 (Nat.le_refl _) hk2) ho2 (Nat.le_refl _) hk3
  obtain ⟨hd, hhd⟩ : ∃ hd, hd = [83, 84, 82, 65, 1, (kind : Int)] ++ loB l.length 2 ++ loB place 8 ++ loB 0 12 := ⟨_, rfl⟩
  rw [← hhd] at ho3
  have hdl : hd.length = 28 := by rw [hhd]; simp [loB_len]
  clear ho1 ho2 hsix
  go_loopw [10, 11] (fun s i wr => ∃ (k : Nat) (r : Value), k ≤ l.length ∧ r = s ∧ i = .int .i64 k ∧ wr.ownsRow w.heap.size 5 1 r (hd ++ rcBytes (l.take k)).length (by8 (hd ++ rcBytes (l.take k))) ∧ Keep Nil w wr) (fun _ i _ => l.length - (intOf i).toNat)
  case atStart => exact ⟨0, s3, Nat.zero_le _, rfl, rfl, by simpa [rcBytes] using ho3, kk⟩
  case round =>
    obtain ⟨k, r, hk', rfl, rfl, how, hkw⟩ := hrel
    have HW := Hid.intro_ how
    clear how
    by_cases hlt : k < l.length
    · obtain ⟨q, hq⟩ : ∃ q, l[k]? = some q := ⟨_, List.getElem?_eq_getElem hlt⟩
      have hqo := HR.out q (List.mem_of_getElem? hq)
      have HQ := Hid.intro_ hq
      clear hq
      go_wp2
      go_loopw [10, 12] (fun s i wr => ∃ (j : Nat) (r2 : Value), j ≤ 4 ∧ r2 = s ∧ i = .int .i64 j ∧ wr.ownsRow w.heap.size 5 1 r2 (hd ++ rcBytes (l.take k) ++ (q.ws.take j).flatMap (fun x => loB x 8)).length (by8 (hd ++ rcBytes (l.take k) ++ (q.ws.take j).flatMap (fun x => loB x 8))) ∧ Keep Nil w wr) (fun _ i _ => 4 - (intOf i).toNat)
      case atStart => exact ⟨0, r, by omega, rfl, rfl, by simpa using HW.out, hkw⟩
      case round =>
        obtain ⟨j, r2, hj, rfl, rfl, how2, hkw2⟩ := hrel
        have HW2 := Hid.intro_ how2
        clear how2
        by_cases hj4 : j < 4
        · have cw : wr.cell? ⟨lg, lo + k * 4 + j, none⟩ = some (.int .u64 ((q.ws.getD j 0 : Nat) : Int)) := by
            have := HC.out (k * 4 + j) _ (rc_at l k j q HQ.out hj4)
            rw [← Nat.add_assoc] at this
            exact cell_keep this hkw2 (fun h => h)
          have hx := ws_lt hqo j
          have htk := Hid.intro_ (ws_take q j hj4)
          generalize q.ws.getD j 0 = x at *
          have hlen : 8 + (hd ++ rcBytes (l.take k) ++ (q.ws.take j).flatMap (fun x => loB x 8)).length ≤ 1099511627776 := by
            rw [List.length_append, List.length_append, hdl, rcBytes_len, flat8_len, List.length_take, List.length_take]
            omega
          have hsz : w.heap.size ≤ wr.heap.size := hkw2.size
          go_wp2_with (go_at_call 200
                       refine (rnumber_m w.heap.size r2 x 8 (x : Int) 8 _ _ HW2.out rfl rfl hx hlen hsz).mono ?_
                       rintro e w4 ⟨s4, rfl, ho4, hk4, hb4⟩)
          have hX : hd ++ rcBytes (l.take k) ++ (q.ws.take j).flatMap (fun x => loB x 8) ++ loB x 8 = hd ++ rcBytes (l.take k) ++ (q.ws.take (j + 1)).flatMap (fun x => loB x 8) := by
            rw [htk.out, List.flatMap_append]; simp
          rw [hX] at ho4
          have hk5 := keep_own hkw2 HW2.out (Nat.le_refl _) hk4
          go_roundw
          case rel => exact ⟨j + 1, s4, by omega, rfl, by go_num, ho4, hk5⟩
          case measure => simp [intOf]; omega
        · obtain rfl : j = 4 := by omega
          have hX : hd ++ rcBytes (l.take k) ++ (q.ws.take 4).flatMap (fun x => loB x 8) = hd ++ rcBytes (l.take (k + 1)) := by
            have e1 : l.take (k + 1) = l.take k ++ [q] := by rw [List.take_add_one, HQ.out]; rfl
            have e2 : (q.ws.take 4).flatMap (fun x => loB x 8) = q.bytes := by simp [R4.ws, R4.bytes]
            rw [e1, e2]
            simp [rcBytes]
          have how3 := HW2.out
          rw [hX] at how3
          have HW3 := Hid.intro_ how3
          clear how3 hX
          go_wp2
          go_roundw
          case rel => exact ⟨k + 1, r2, by omega, rfl, by go_num, HW3.out, hkw2⟩
          case measure => simp [intOf]; omega
    · obtain rfl : k = l.length := by omega
      have hL := HW.out
      rw [List.take_length] at hL
      have hlen : (hd ++ rcBytes l).length = 28 + 32 * l.length := by rw [List.length_append, hdl, rcBytes_len]
      have hr0 : ∃ g cap, r = .slice (some ⟨g, 0, none⟩) (28 + 32 * l.length) cap := by
        rcases hL.2 with ⟨_, h0⟩ | ⟨g, cap, cur, e, _⟩
        · rw [hlen] at h0; omega
        · rw [hlen] at e; exact ⟨g, cap, e⟩
      obtain ⟨g, cap, rfl⟩ := hr0
      have HL := Hid.intro_ hL
      clear hL
      have hz4 : (block : Int) - 4 - ((28 + 32 * l.length : Nat) : Int) = ((block - 32 - 32 * l.length : Nat) : Int) := by omega
      have hbody : hd ++ rcBytes l ++ loB 0 (block - 32 - 32 * l.length) = encBody kind place l block := by rw [hhd]; rfl
      have hbl : (encBody (kind : Int) place l block).length = block - 4 := encBody_len hf
      have hbr := encBody_range (place := place) (block := block) (l := l) (kind := (kind : Int)) (by omega)
      generalize hB : encBody (kind : Int) place l block = body at *
      have hcr : crc (natB body) < 4294967296 := by unfold crc; omega
      have hm4 : (block : Int) - 4 - (28 + 32 * (l.length : Int)) = ((block - 32 - 32 * l.length : Nat) : Int) := by omega
      have hln : block - 32 - 32 * l.length + (hd ++ rcBytes l).length ≤ 1099511627776 := by omega
      have hzero := rnumber_m w.heap.size _ 0 (block - 32 - 32 * l.length) 0 _ (hd ++ rcBytes l) _ HL.out rfl hm4 (by decide) hln hkw.size
      have HB := Hid.intro_ hB
      have HBR := Hid.intro_ hbr
      have HM4 := Hid.intro_ hm4
      clear hz4 hbr hB hm4
      go_wp2_with (first
        | (go_at_call 200
           with_reducible refine (hzero).mono ?_
           rintro e w5 ⟨s5, rfl, ho5, hk5, hb5⟩
           rw [hbody, hbl] at ho5
           have hk6 := keep_own hkw HL.out (Nat.le_refl _) hk5
           obtain ⟨g5, cap5, rfl, hc5, hg5, hcell⟩ := own_slice ho5 (by omega)
           have hsum := rsum_any g5 0 cap5 (natB body) w5 (fun j c hj => hcell j _ (natB_cell HBR.out hj).1) (fun c hc => by obtain ⟨j, hj⟩ := List.mem_iff_getElem?.1 hc; exact (natB_cell HBR.out hj).2) (by simp [natB, hbl]; omega)
           rw [show (natB body).length = block - 4 by simp [natB, hbl]] at hsum
           have HO5 := Hid.intro_ ho5
           clear hcell ho5 hk5 hb5)
        | (go_at_call 146; refine hsum.mono ?_; rintro e w' ⟨rfl, hw⟩; obtain rfl := hw.symm))
      have hlast := rnumber_m w.heap.size (.slice (some ⟨g5, 0, none⟩) (block - 4) cap5) (crc (natB body)) 4 ((crc (natB body) : Nat) : Int) 4 body w5 (by rw [hbl]; exact HO5.out) rfl rfl (by omega) (by omega) hk6.size
      with_reducible refine hlast.mono ?_
      rintro e w6 ⟨s6, rfl, ho6, hk7, hb6⟩
      have hk8 := keep_own hk6 HO5.out (Nat.le_refl _) hk7
      have hfin : w6.ownsRow w.heap.size 5 1 s6 block (by8 (encB kind place l block)) := by
        unfold encB
        rw [HB.out]
        have e : (body ++ loB (crc (natB body)) 4).length = block := by rw [List.length_append, loB_len, hbl]; omega
        rw [e] at ho6
        exact ho6
      have HFin := Hid.intro_ hfin
      clear hfin ho6 hlast
      go_wp2
      go_ret2
      exact ⟨s6, rfl, HFin.out, hk8⟩
end Go.Proofs.YtadipinnbehhhaaGreatDoor
namespace Go.Proofs.YtadipinnbehhhaaGreatDoor
open Go.RowKit

/-- n bytes of a block, the rest 0. -/
def pad (n : Nat) (bs : List Int) : List Int := bs.take n ++ List.replicate (bs.length - n) 0
theorem pad_len (n : Nat) (bs : List Int) : (pad n bs).length = bs.length := by simp [pad]; omega

/-- A block more. -/
def DSt.put (D : DSt) (s : ByteArray) (f : AFile) (b : List Int) : DSt :=
  { D.setF s { f with blocks := f.blocks ++ [b] } with used := D.used + 1, most := max D.most (D.used + 1) }

/-- A slice of bytes that anyone may hold. -/
structure BytesAt (w : World) (a : Addr) (bs : List Int) : Prop where
  rd : Rd w (some a) (by8 bs)
  blk : ∃ cs fr, w.heap[a.block]? = some (.cells cs 5 fr)
theorem BytesAt.keep {w w' : World} {F : Nat → Prop} {a : Addr} {bs : List Int} (h : BytesAt w a bs) (k : Keep F w w') (hn : ∀ cs fr, w.heap[a.block]? = some (.cells cs 5 fr) → ¬ F a.block) : BytesAt w' a bs := by
  obtain ⟨cs, fr, hb⟩ := h.blk
  have hf := hn cs fr hb
  exact ⟨h.rd.keep k (fun ad e _ => by injection e with e; subst e; exact hf), cs, fr, (k.same _ (lt_of_heap hb) hf).trans hb⟩
theorem BytesAt.nil {w w' : World} {a : Addr} {bs : List Int} (h : BytesAt w a bs) (k : Keep Nil w w') : BytesAt w' a bs := h.keep k (fun _ _ _ h => h)

theorem Ok.put {D : DSt} (h : D.Ok) {s : ByteArray} {i : Nat} {f : AFile} {b : List Int} (hi : D.files[i]? = some (s, f)) (hr : D.used < D.room) (hb : (b.length : Int) = D.block) (h8 : ∀ x ∈ b, 0 ≤ x ∧ x ≤ 255) : (D.put s f b).Ok := by
  obtain ⟨a1, a2, a3, a4, a5, a6, a7, a8, a9, a10, a11⟩ := h
  have hm : (s, f) ∈ D.files := List.mem_of_getElem? hi
  refine ⟨a1, a2, a3, a4, ?_, ?_, ?_, ?_, fun p hp c hc => ?_, fun p hp c hc => ?_, ?_⟩
  · have := total_upd (f := { f with blocks := f.blocks ++ [b] }) a11 hi
    simp only [List.length_append, List.length_cons, List.length_nil] at this
    show D.used + 1 = (total (updF s (fun _ => { f with blocks := f.blocks ++ [b] }) D.files) : Int)
    rw [a5]
    omega
  · show D.used + 1 ≤ D.room
    omega
  · show max D.most (D.used + 1) ≤ D.room
    omega
  · show 0 ≤ max D.most (D.used + 1)
    omega
  · rcases mem_upd hp with rfl | hp
    · rcases List.mem_append.1 hc with hc | hc
      · exact a9 _ hm c hc
      · simp only [List.mem_singleton] at hc; subst hc; exact hb
    · exact a9 p hp c hc
  · rcases mem_upd hp with rfl | hp
    · rcases List.mem_append.1 hc with hc | hc
      · exact a10 _ hm c hc
      · simp only [List.mem_singleton] at hc; subst hc; exact h8
    · exact a10 p hp c hc
  · rw [show (D.put s f b).files = updF s (fun _ => { f with blocks := f.blocks ++ [b] }) D.files from rfl, updF_names]; exact a11

theorem le_sum : ∀ {l : List Nat} {x : Nat}, x ∈ l → x ≤ l.sum
  | [], _, h => by simp at h
  | a :: l, x, h => by
    rcases List.mem_cons.1 h with rfl | h
    · simp
    · have := le_sum h; simp; omega
theorem blocks_le {D : DSt} (h : D.Ok) {i : Nat} {s : ByteArray} {f : AFile} (hi : D.files[i]? = some (s, f)) : (f.blocks.length : Int) ≤ D.used := by
  rw [h.used]
  have : f.blocks.length ≤ total D.files := by
    unfold total
    exact le_sum (List.mem_map.2 ⟨_, List.mem_of_getElem? hi, rfl⟩)
  omega

theorem splice_pad (n : Nat) (bs : List Int) (hn : n ≤ bs.length) : splice (List.replicate bs.length (Value.int .u8 0)) 0 (by8 (bs.take n)) = by8 (pad n bs) := by
  simp [splice, by8, pad]
  omega

/-- The block has been made and hung behind the others. -/
structure PutMid (w : World) (r1 : Nat) (v0 : Value) (n : Nat) (bs : List Int) (vs : List Value) (len : Nat) (wc : World) : Prop where mk ::
  out : ∃ w2 wm w3 av cv, Keep Nil w w2 ∧ w2.heap[w.heap.size]? = some (.cells (by8 (pad n bs)).toArray 5 (0, 0)) ∧ Keep Nil w2 wm ∧ Keep (fun b => v0.ownBlock = some b) wm w3 ∧
    w3.ownsRow 0 161 1 (.slice av (len + 1) cv) (len + 1) (vs ++ [.slice (some ⟨w.heap.size, 0, none⟩) bs.length bs.length]) ∧
    ((Value.slice av (len + 1) cv).ownBlock = v0.ownBlock ∨ (Value.slice av (len + 1) cv).ownBlock = some wm.heap.size) ∧ wc = w3.setCell ⟨r1, 1, none⟩ (.slice av (len + 1) cv)

/-- What stands behind an append, put together. -/
theorem append_close {w w2 wm w3 wF : World} {F : Nat → Prop} {d i n : Nat} {D : DSt} {R : DRep} {s : ByteArray} {f : AFile} {r : Nat × Value} {bs : List Int} {vs : List Value} {sv : Value} {used most : Value}
    (h : DiskAt w F d D R) (hi : D.files[i]? = some (s, f)) (hr : R.reps[i]? = some r) (hl : (bs.length : Int) = D.block) (h8 : ∀ x ∈ bs, 0 ≤ x ∧ x ≤ 255) (hu : D.used < D.room)
    (hvs : ∀ (j : Nat) (u : Value) (bs : List Int), vs[j]? = some u → f.blocks[j]? = some bs → BlkV w F u bs) (hrF : ∀ g, r.2.ownBlock = some g → F g) (hvl : vs.length = f.blocks.length)
    (k2 : Keep Nil w w2) (hg : w2.heap[w.heap.size]? = some (.cells (by8 (pad n bs)).toArray 5 (0, 0))) (km : Keep Nil w2 wm) (k3 : Keep (fun b => r.2.ownBlock = some b) wm w3)
    (ho : w3.ownsRow 0 161 1 sv (f.blocks.length + 1) (vs ++ [.slice (some ⟨w.heap.size, 0, none⟩) bs.length bs.length])) (hsv : sv.ownBlock = r.2.ownBlock ∨ sv.ownBlock = some wm.heap.size)
    (hF : wF = ((w3.setCell ⟨r.1, 1, none⟩ sv).setCell ⟨d, 10, none⟩ used).setCell ⟨d, 11, none⟩ most) (eu : used = .int .i64 (D.used + 1)) (em : most = .int .i64 (max D.most (D.used + 1))) :
    DiskTo d F (D.put s f (pad n bs)) w wF := by
  have hfi := h.file i _ r hi hr
  have nrd : r.1 ≠ d := Blk.ne_ hfi.blk h.blk (by decide)
  have nn : ∀ {g : Nat} {t : TypeId} {cs : Array Value}, Blk w g t cs → t ≠ 161 → ¬ r.2.ownBlock = some g := fun hb ht e => by
    obtain ⟨cur, hc⟩ := h.rowblk hi hr e
    exact Blk.ne_ hb hc ht rfl
  have kwm : Keep Nil w wm := k2.then_ km
  have kw3 : Keep (fun b => r.2.ownBlock = some b) w w3 := (kwm.mono (fun _ _ h => h.elim)).then_ k3
  have kF : Keep (fun b => b = d ∨ b = r.1 ∨ r.2.ownBlock = some b) w wF := by
    rw [hF]
    exact (((kw3.mono (fun _ _ h => .inr (.inr h))).setCell (p := ⟨r.1, 1, none⟩) (fun _ => .inr (.inl rfl)) _).setCell (p := ⟨d, 10, none⟩) (fun _ => .inl rfl) _).setCell (p := ⟨d, 11, none⟩) (fun _ => .inl rfl) _
  have hd3 := h.blk.keep kw3 (nn h.blk (by decide))
  have hr3 := hfi.blk.keep kw3 (nn hfi.blk (by decide))
  have hwl : w.heap.size < w2.heap.size := lt_of_heap hg
  have hwF : w.heap.size < wF.heap.size := by
    have e : wF.heap.size = w3.heap.size := by rw [hF]; simp [World.setCell]
    have := km.size; have := k3.size; omega
  -- the new block of bytes
  have hgF : wF.heap[w.heap.size]? = some (.cells (by8 (pad n bs)).toArray 5 (0, 0)) := by
    have h3 : w3.heap[w.heap.size]? = some (.cells (by8 (pad n bs)).toArray 5 (0, 0)) := by
      refine (k3.same _ (Nat.lt_of_lt_of_le hwl km.size) (fun e => ?_)).trans ((km.same _ hwl (fun h => h)).trans hg)
      obtain ⟨cur, hc⟩ := h.rowblk hi hr e
      exact absurd hc.lt (Nat.lt_irrefl _)
    rw [hF]
    have l1 := hfi.blk.lt
    have l2 := h.blk.lt
    rw [Below.heap_setCell _ _ _ _ (by show w.heap.size ≠ d; omega), Below.heap_setCell _ _ _ _ (by show w.heap.size ≠ d; omega), Below.heap_setCell _ _ _ _ (by show w.heap.size ≠ r.1; omega)]
    exact h3
  have hbnew : BlkV wF (fun b => F b ∨ (w.heap.size ≤ b ∧ b < wF.heap.size)) (.slice (some ⟨w.heap.size, 0, none⟩) bs.length bs.length) (pad n bs) := by
    refine ⟨⟨w.heap.size, 0, none⟩, bs.length, by rw [pad_len], fun j u hu => ⟨_, rfl, ?_⟩, .inr ⟨Nat.le_refl _, hwF⟩, _, _, hgF⟩
    have hb : Blk wF w.heap.size 5 (by8 (pad n bs)).toArray := hgF
    have := hb.at_ j
    by_cases h0 : j = 0
    · subst h0; simpa [Addr.add] using this.trans (by simpa using hu)
    · simpa [Addr.add, h0] using this.trans (by simpa using hu)
  have hbD : Blk wF d 153 ((D.put s f (pad n bs)).cells { R with reps := R.reps.set i (r.1, sv) }) := by
    rw [hF, eu, em]
    have := ((hd3.far (p := ⟨r.1, 1, none⟩) (Ne.symm nrd) sv).set_ 10 (.int .i64 (D.used + 1))).set_ 11 (.int .i64 (max D.most (D.used + 1)))
    exact this
  have hbr : Blk wF r.1 160 #[.int .i64 (if f.done then 1 else 0), sv] := by
    rw [hF]
    exact ((hr3.set_ 1 sv).far (p := ⟨d, 10, none⟩) nrd _).far (p := ⟨d, 11, none⟩) nrd _
  have hoF : wF.ownsRow 0 161 1 sv (f.blocks.length + 1) (vs ++ [.slice (some ⟨w.heap.size, 0, none⟩) bs.length bs.length]) := by
    have kk : Keep (fun b => b = d ∨ b = r.1) w3 wF := by
      rw [hF]
      exact (((Keep.refl (fun b => b = d ∨ b = r.1) w3).setCell (p := ⟨r.1, 1, none⟩) (fun _ => .inr rfl) _).setCell (p := ⟨d, 10, none⟩) (fun _ => .inl rfl) _).setCell (p := ⟨d, 11, none⟩) (fun _ => .inl rfl) _
    refine own_keep ho kk (fun g hg e => ?_)
    obtain ⟨cur, hc⟩ := own_blk ho hg
    rcases e with e | e
    · exact Blk.ne_ hc hd3 (by decide) e
    · exact Blk.ne_ hc hr3 (by decide) e
  have hsF : ∀ g, sv.ownBlock = some g → r.2.ownBlock = some g ∨ w.heap.size ≤ g := fun g hg => by
    rcases hsv with e | e
    · exact .inl (by rw [← e]; exact hg)
    · rw [e] at hg
      injection hg with hg
      exact .inr (by have := kwm.size; omega)
  have hcov : ∀ b, F b → (F b ∨ (w.heap.size ≤ b ∧ b < wF.heap.size)) := fun b h => .inl h
  refine ⟨fun b => F b ∨ (w.heap.size ≤ b ∧ b < wF.heap.size), _, DiskAt.upd (D' := D.put s f (pad n bs)) (f' := { f with blocks := f.blocks ++ [pad n bs] }) (v' := sv) h hi hr kF hcov ?_ hbD ?_ hsF rfl rfl ?_, kF.mono ?_, ?_⟩
  · rintro b (hb | ⟨_, hb⟩)
    · exact Nat.lt_of_lt_of_le (h.lt b hb) kF.size
    · exact hb
  · refine ⟨hbr, .inl hfi.inF, _, by simpa using hoF, fun g hg => ?_, fun j u c hu hc => ?_⟩
    · rcases hsF g hg with e | e
      · exact .inl (hrF g e)
      · refine .inr ⟨e, ?_⟩
        obtain ⟨cur, hc⟩ := own_blk hoF hg
        exact hc.lt
    · by_cases hj : j < f.blocks.length
      · rw [List.getElem?_append_left (by rw [hvl]; exact hj)] at hu
        rw [List.getElem?_append_left hj] at hc
        refine ((hvs j u c hu hc).keep kF (fun b cs fr _ hb => ?_)).mono hcov
        rintro (e | e | e)
        · exact blk_ne h.blk hb (by decide) e
        · exact blk_ne hfi.blk hb (by decide) e
        · obtain ⟨cur, hc2⟩ := h.rowblk hi hr e
          exact blk_ne hc2 hb (by decide) rfl
      · rw [List.getElem?_append_right (by rw [hvl]; omega), hvl] at hu
        rw [List.getElem?_append_right (by omega)] at hc
        have h0 : j - f.blocks.length = 0 := by
          have := (List.getElem?_eq_some_iff.1 hc).1
          simp at this
          omega
        rw [h0] at hu hc
        simp only [List.getElem?_cons_zero, Option.some.injEq] at hu hc
        subst hu hc
        exact hbnew
  · refine Ok.put h.ok hi hu (by rw [pad_len]; exact hl) (fun x hx => ?_)
    rcases List.mem_append.1 hx with hx | hx
    · exact h8 x (List.mem_of_mem_take hx)
    · have := List.eq_of_mem_replicate hx
      omega
  · rintro b _ (e | e | e)
    · rw [e]; exact h.fd
    · rw [e]; exact hfi.inF
    · exact hrF b e
  · rintro b (hb | ⟨hb, _⟩)
    · exact .inl hb
    · exact .inr hb

set_option maxRecDepth 100000 in
set_option maxHeartbeats 4000000 in
theorem append_put (n : Nat) (d bd bb bf i : Nat) (D : DSt) (R : DRep) (F : Nat → Prop) (s : ByteArray) (f : AFile) (r : Nat × Value) (a : Addr) (c : Nat) (bs : List Int) (w : World) (h : DiskAt w F d D R) (hi : D.files[i]? = some (s, f)) (hr : R.reps[i]? = some r)
    (cd : w.cell? ⟨bd, 0, none⟩ = some (.pointer (some ⟨d, 0, none⟩))) (cb : w.cell? ⟨bb, 0, none⟩ = some (.slice (some a) bs.length c)) (cf : w.cell? ⟨bf, 0, none⟩ = some (.pointer (some ⟨r.1, 0, none⟩)))
    (tb : ∃ cs, Blk w bf 158 cs) (td : ∃ cs, Blk w bd 31 cs)
    (hbs : BytesAt w a bs) (hl : (bs.length : Int) = D.block) (hlc : bs.length ≤ c) (h8 : ∀ x ∈ bs, 0 ≤ x ∧ x ≤ 255) (hn : n ≤ bs.length) (hu : D.used < D.room) :
    Calls Tryz.prog 273 #[.int .i64 n, .pointer (some ⟨bd, 0, none⟩), .pointer (some ⟨bb, 0, none⟩), .pointer (some ⟨bf, 0, none⟩)] w fun e w' => e = .returned (.tuple #[]) ∧ DiskTo d F (D.put s f (pad n bs)) w w' := by
  have hfi := h.file i _ r hi hr
  have hb1 := h.ok.b1
  have hb0 := h.ok.b0
  have hle := h.ok.le
  have hr1 := h.ok.r1
  have hbl := blocks_le h.ok hi
  obtain ⟨vs, hrow, hrF, hvs⟩ := hfi.row
  have HV := Hid.intro_ hvs
  have HRF := Hid.intro_ hrF
  have HI := Hid.intro_ hi
  have HR := Hid.intro_ hr
  have HROW := Hid.intro_ hrow
  have HL := Hid.intro_ hl
  clear hvs hrF hi hr hrow
  obtain ⟨i0, hi0, hz0, hz1, hz2⟩ := info_parts info_u8
  obtain ⟨i1, hi1, hy0, hy1, hy2⟩ := info_parts info_bytes
  have c1 : w.cell? ⟨d, 1, none⟩ = some (.int .i64 bs.length) := by rw [hl]; exact h.blk.at_ 1
  have lbd := cell_lt cd
  have lbb := cell_lt cb
  have lbf := cell_lt cf
  have ld := h.blk.lt
  have hn16 : bs.length ≤ 65536 := by omega
  have hfl : f.blocks.length ≤ 1099511627776 := by omega
  clear hl
  have cr : r.2.oneCell' = true := by
    rcases HROW.out.2 with ⟨e, _⟩ | ⟨g, cap, cur, e, _⟩ <;> rw [e] <;> rfl
  obtain ⟨v0, hv0⟩ : ∃ v, v = r.2 := ⟨_, rfl⟩
  have c1r : w.cell? ⟨r.1, 1, none⟩ = some v0 := by rw [hv0]; exact hfi.blk.at_ 1
  have HV0 := Hid.intro_ hv0
  have lr := hfi.blk.lt
  have nn : ∀ {g : Nat} {t : TypeId} {cs : Array Value}, Blk w g t cs → t ≠ 161 → ¬ v0.ownBlock = some g := fun hb ht e => by
    rw [hv0] at e
    obtain ⟨cur, hc⟩ := own_blk HROW.out e
    exact Blk.ne_ hb hc ht rfl
  have nrd : ¬ r.1 = d := Blk.ne_ hfi.blk h.blk (by decide)
  have hu0 : 0 ≤ D.used := by rw [h.ok.used]; omega
  have nr := nn hfi.blk (by decide)
  have nd := nn h.blk (by decide)
  have nf := nn tb.choose_spec (by decide)
  have nbd := nn td.choose_spec (by decide)
  clear hv0 nn
  have hcs1 := Hid.intro_ (show (by8 (bs.take n)).length = Nat.min n bs.length by rw [by8_len, List.length_take])
  have hcs2 := Hid.intro_ (show 0 + (by8 (bs.take n)).length ≤ (List.replicate bs.length (Value.int .u8 0)).length by rw [by8_len, List.length_take, List.length_replicate]; omega)
  have hcs3 := Hid.intro_ (show ∀ v ∈ by8 (bs.take n), v.oneCell' = true by
    intro v hv
    obtain ⟨x, _, rfl⟩ := List.mem_map.1 hv
    rfl)
  have hsrc := Hid.intro_ (show ∀ w', Keep Nil w w' → ∀ (j : Nat) (v : Value), (by8 (bs.take n))[j]? = some v → w'.cell? (a.add j) = some v by
    intro w' k j v hj
    obtain ⟨ad, e, hc⟩ := (hbs.rd.keep k (fun _ _ _ h => h)) j v (by
      rw [by8, List.map_take] at hj
      have hlt := (List.getElem?_eq_some_iff.1 hj).1
      rw [List.getElem?_take_of_lt (by simp at hlt; omega)] at hj
      exact hj)
    injection e with e
    subst e
    exact hc)
  go_enter Tryz.func273, Tryz.ntmps273
  go_wp2_with (first
    | (at_make; refine wpList_make_full _ rfl _ _ 161 rfl w.heap.size 5 i0 (.int .u8 0) 1 Tryz.underlying161 hi0 hz0 hz1 .i64 .i64 _ _ bs.length rfl rfl rfl rfl (by rw [hz2]; omega) (by unfold maxLen; omega) (Nat.le_refl _) ?_
       intro w1 hown1 hgr1
       have k1 := Keep.of_grown_none hgr1
       have cd1 := cell_keep cd k1 (fun h => h)
       have cb1 := cell_keep cb k1 (fun h => h)
       have cf1 := cell_keep cf k1 (fun h => h)
       have hb1 : w1.heap[w.heap.size]? = some (.cells (List.replicate bs.length (Value.int .u8 0)).toArray 5 (0, 0)) := by
         rcases hown1.2 with ⟨hv, _⟩ | ⟨g, cap, cur, hv, _, hh, hle, hm, hs, ht⟩
         · simp at hv
         · injection hv with ha hnn hcap
           injection ha with ha
           injection ha with ha _ _
           subst ha
           subst hcap
           rw [hh]
           have : cur = (List.replicate bs.length (Value.int .u8 0)).toArray := by
             apply Array.toList_inj.1
             rw [← toList_madeCells_one, ← show (madeCells (Value.int .u8 0).cells (bs.length * 1)) = madeCells #[Value.int .u8 0] bs.length by simp [Value.cells], ← ht, List.take_of_length_le (by simp [hs])]
           rw [this]
       have HB1 := Hid.intro_ hb1
       clear hown1 hb1 hgr1)
    | (refine wpList_copy_splice rfl (.tmp 11) (.tmp 14) 161 161 rfl 5 Tryz.underlying161 (by simp [hi0, hz1]) (some ⟨w.heap.size, 0, none⟩) (some a) bs.length bs.length n c (by simp [Act.eval]) (by simp [Act.eval]) w.heap.size 0 (List.replicate bs.length (Value.int .u8 0)) 5 HB1.out (by8 (bs.take n)) hcs1.out (fun _ => ⟨rfl, a, rfl, hsrc.out w1 k1⟩) hcs2.out hcs3.out w.heap.size w1 (Below.refl _ _) (Nat.le_refl _) ?_
       intro w2 hg2 hb2
       have k2 : Keep Nil w w2 := k1.trans (Keep.of_below hb2 (F := fun b => w.heap.size ≤ b) (fun b h _ => h)) (fun b hb h => absurd h (by omega))
       have cd2 := cell_keep cd k2 (fun h => h)
       have cf2 := cell_keep cf k2 (fun h => h)
       have cr2 := cell_keep c1r k2 (fun h => h)
       have lr2 := Nat.lt_of_lt_of_le lr k2.size
       have lbf2 := cell_lt cf2
       have ld2 := Nat.lt_of_lt_of_le ld k2.size
       have lbd2 := cell_lt cd2
       simp only at lbf2 lbd2))
  go_cut [] from 16 to 25 (fun wc => PutMid w r.1 v0 n bs vs f.blocks.length wc)
  case first =>
    go_region_law (refine step_append_own rfl (.tmp 20) (.tmp 22) 53 rfl 0 161 i1 (.slice none 0 0) 1 24 Tryz.underlying53 hi1 hy0 hy1 hy2 rfl (by decide) v0 f.blocks.length vs (by simp [Act.eval]) (by rw [HV0.out]; exact own_keep HROW.out ((k2.drew).alloc _) (fun g _ h => h)) ⟨w2.heap.size, 0, none⟩ 1 1 [.slice (some ⟨w.heap.size, 0, none⟩) bs.length bs.length] (by simp [Act.eval]) rfl (one_new _ _ _) (by simp [Value.oneCell']) (by unfold maxLen; omega) (by omega) (Nat.zero_le _) ?_; intro av cv w3 ho3 k3 hv3
                   have k23 := (k2.drew).alloc (.cells #[.slice (some ⟨w.heap.size, 0, none⟩) bs.length bs.length] 161)
                   have b3 := (hfi.blk.keep k23 (fun h => h)).keep k3 nr
                   have d3 := (h.blk.keep k23 (fun h => h)).keep k3 nd
                   have x3 := b3.at_ 1
                   have x10 := d3.at_ 10
                   have x11 := d3.at_ 11
                   have y10 := d3.fr 10
                   have y11 := d3.fr 11
                   simp only [DSt.cells, List.getElem?_toArray, List.getElem?_cons_zero, List.getElem?_cons_succ] at x10 x11
                   have y3 := b3.fr 1
                   have cf3 := cell_keep (cell_keep cf k23 (fun h => h)) k3 nf
                   have cd3 := cell_keep (cell_keep cd k23 (fun h => h)) k3 nbd)
    all_goals
      go_wp2_with fail
      go_meet
      exact ⟨w2, _, w3, av, cv, k2, hg2.out.trans (by rw [splice_pad n bs hn]), ((Keep.refl Nil w2).drew).alloc _, k3, ho3.out, hv3.out, rfl⟩
  case rest =>
    clear hsrc
    obtain ⟨w2, wm, w3, av, cv, k2, hg, km, k3, ho, hsv, rfl⟩ := hcut.out
    have HG := Hid.intro_ hg
    have HO := Hid.intro_ ho
    have HSV := Hid.intro_ hsv
    have kwm := k2.then_ km
    have kw3 : Keep (fun b => v0.ownBlock = some b) w w3 := (kwm.mono (fun _ _ h => h.elim)).then_ k3
    have d3 := h.blk.keep kw3 nd
    have x10 : w3.cell? ⟨d, 10, none⟩ = some (.int .i64 D.used) := d3.at_ 10
    have x11 : w3.cell? ⟨d, 11, none⟩ = some (.int .i64 D.most) := d3.at_ 11
    have y10 := d3.fr 10
    have y11 := d3.fr 11
    have cd3 := cell_keep cd kw3 nbd
    have lbd3 := cell_lt cd3
    have ld3 := d3.lt
    have lr3 := (hfi.blk.keep kw3 nr).lt
    have hm1 := h.ok.most
    have hm0 := h.ok.m0
    have nbr : ¬ bd = r.1 := Blk.ne_ td.choose_spec hfi.blk (by decide)
    have nbd' : ¬ bd = d := Blk.ne_ td.choose_spec h.blk (by decide)
    have hDk := h
    clear hg ho hsv hcut
    go_wp2
    go_region
    all_goals go_wp2
    all_goals go_end0
    all_goals
      have hmx : ∀ x : Int, x = max D.most (D.used + 1) → Value.int .i64 x = .int .i64 (max D.most (D.used + 1)) := fun x h => by rw [h]
      refine ⟨rfl, (append_close hDk HI.out HR.out HL.out h8 hu HV.out HRF.out (by simpa using HROW.out.1) k2 HG.out km (by rw [← HV0.out]; exact k3) HO.out (by rw [← HV0.out]; exact HSV.out) rfl rfl (hmx _ ?_)).nil ((Keep.refl Nil _).drew)⟩
      omega
end Go.Proofs.YtadipinnbehhhaaGreatDoor
namespace Go.Proofs.YtadipinnbehhhaaGreatDoor
open Go.RowKit

def DSt.appended (D : DSt) : DSt := { D with appends := wrap64 (D.appends + 1) }

/-- What the three inner functions of Append hold. -/
structure AppCtx (w : World) (F : Nat → Prop) (d bp bd bb bf i : Nat) (D : DSt) (R : DRep) (s : ByteArray) (f : AFile) (r : Nat × Value) (a : Addr) (c : Nat) (bs : List Int) : Prop where
  disk : DiskAt w F d D R
  hi : D.files[i]? = some (s, f)
  hr : R.reps[i]? = some r
  cp : w.cell? ⟨bp, 0, none⟩ = some (.func (.func 273) #[] #[.pointer (some ⟨bd, 0, none⟩), .pointer (some ⟨bb, 0, none⟩), .pointer (some ⟨bf, 0, none⟩)])
  cd : Blk w bd 31 #[.pointer (some ⟨d, 0, none⟩)]
  cb : w.cell? ⟨bb, 0, none⟩ = some (.slice (some a) bs.length c)
  cf : Blk w bf 158 #[.pointer (some ⟨r.1, 0, none⟩)]
  nd : ¬ F bd
  hbs : BytesAt w a bs
  hl : (bs.length : Int) = D.block
  hlc : bs.length ≤ c
  h8 : ∀ x ∈ bs, 0 ≤ x ∧ x ≤ 255
  hu : D.used < D.room

theorem AppCtx.put {w : World} {F : Nat → Prop} {d bp bd bb bf i : Nat} {D : DSt} {R : DRep} {s : ByteArray} {f : AFile} {r : Nat × Value} {a : Addr} {c : Nat} {bs : List Int} (x : AppCtx w F d bp bd bb bf i D R s f r a c bs) (n : Nat) (hn : n ≤ bs.length) (q : Nat) :
    Calls Tryz.prog 273 #[.int .i64 n, .pointer (some ⟨bd, 0, none⟩), .pointer (some ⟨bb, 0, none⟩), .pointer (some ⟨bf, 0, none⟩)] (w.drewN q) fun e w' => e = .returned (.tuple #[]) ∧ DiskTo d F (D.put s f (pad n bs)) w w' := by
  have k := (Keep.refl Nil w).drewN q
  exact (append_put n d bd bb bf i D R F s f r a c bs (w.drewN q) (x.disk.nil k) x.hi x.hr (x.cd.at_ 0) x.cb (x.cf.at_ 0) ⟨_, x.cf⟩ ⟨_, x.cd⟩ (x.hbs.nil k) x.hl x.hlc x.h8 hn x.hu).mono fun e w' ⟨he, hd⟩ => ⟨he, hd.from_nil k⟩

theorem put_enters (n : Int) (a b c : Nat) (w : World) : (callFunc 273 #[.int .i64 n, .pointer (some ⟨a, 0, none⟩), .pointer (some ⟨b, 0, none⟩), .pointer (some ⟨c, 0, none⟩)]).run Tryz.prog w = .ok (.enter 273 #[.int .i64 n, .pointer (some ⟨a, 0, none⟩), .pointer (some ⟨b, 0, none⟩), .pointer (some ⟨c, 0, none⟩)]) w := by
  kernel_rfl

theorem pad_all (bs : List Int) : pad bs.length bs = bs := by simp [pad]

set_option maxRecDepth 100000 in
set_option maxHeartbeats 1000000 in
theorem append_done {w : World} {F : Nat → Prop} {d bp bd bb bf i : Nat} {D : DSt} {R : DRep} {s : ByteArray} {f : AFile} {r : Nat × Value} {a : Addr} {c : Nat} {bs : List Int} (x : AppCtx w F d bp bd bb bf i D R s f r a c bs) :
    Calls Tryz.prog 274 #[.pointer (some ⟨bp, 0, none⟩), .pointer (some ⟨bd, 0, none⟩)] w fun e w' => e = .returned (.tuple #[]) ∧ DiskTo d F (D.put s f bs).appended w w' := by
  have hput := x.put bs.length (Nat.le_refl _) 1
  rw [pad_all] at hput
  have cp := x.cp
  have cd : w.cell? ⟨bd, 0, none⟩ = some (.pointer (some ⟨d, 0, none⟩)) := x.cd.at_ 0
  have c1 : w.cell? ⟨d, 1, none⟩ = some (.int .i64 bs.length) := by rw [x.hl]; exact x.disk.blk.at_ 1
  have HP := Hid.intro_ hput
  have hen : ∀ w, (callFunc 273 #[.int .i64 bs.length, .pointer (some ⟨bd, 0, none⟩), .pointer (some ⟨bb, 0, none⟩), .pointer (some ⟨bf, 0, none⟩)]).run Tryz.prog w = .ok (.enter 273 #[.int .i64 bs.length, .pointer (some ⟨bd, 0, none⟩), .pointer (some ⟨bb, 0, none⟩), .pointer (some ⟨bf, 0, none⟩)]) w := fun w => put_enters _ _ _ _ w
  clear hput
  go_enter Tryz.func274, Tryz.ntmps274
  go_wp2
  go_region_with (go_at_call 273; refine HP.out.mono ?_; rintro e w1 ⟨rfl, F1, R1, hD1, hs1⟩
                  have cd1 := cell_keep cd hs1.keep x.nd
                  have c7 : w1.cell? ⟨d, 7, none⟩ = some (.int .i64 (D.put s f bs).appends) := hD1.blk.at_ 7
                  have f7 := hD1.blk.fr 7)
  all_goals
    go_wp2
    go_end0
    have k7 := (Keep.refl (fun b => b = d) w1).setCell (p := ⟨d, 7, none⟩) (fun _ => rfl) (.int .i64 (wrap64 ((D.put s f bs).appends + 1)))
    have hok := hD1.ok
    refine ⟨rfl, F1, R1, DiskAt.turn (D' := (D.put s f bs).appended) hD1 k7 (Blk.set_ hD1.blk 7 _) rfl rfl ?_, hs1.trans ⟨k7.mono (fun b _ e => by rw [show b = d from e]; exact hD1.fd), fun b hb => .inl hb⟩⟩
    obtain ⟨a1, a2, a3, a4, a5, a6, a7, a8, a9, a10, a11⟩ := hok
    exact ⟨a1, a2, a3, a4, a5, a6, a7, a8, a9, a10, a11⟩

/-- What a cut leaves of an append. -/
def partPut (s : ByteArray) (f : AFile) (bs : List Int) (n : Int) (D : DSt) : DSt := if 0 < n then D.put s f (pad (min n bs.length).toNat bs) else D

set_option maxRecDepth 100000 in
set_option maxHeartbeats 1000000 in
theorem append_part {w : World} {F : Nat → Prop} {d bp bd bb bf i : Nat} {D : DSt} {R : DRep} {s : ByteArray} {f : AFile} {r : Nat × Value} {a : Addr} {c : Nat} {bs : List Int} (x : AppCtx w F d bp bd bb bf i D R s f r a c bs) (n : Int) :
    Calls Tryz.prog 275 #[.int .i64 n, .pointer (some ⟨bp, 0, none⟩), .pointer (some ⟨bd, 0, none⟩)] w fun e w' => e = .returned (.tuple #[]) ∧ DiskTo d F (partPut s f bs n D) w w' := by
  unfold partPut
  by_cases hn : 0 < n
  · rw [if_pos hn]
    have cp := x.cp
    have cd : w.cell? ⟨bd, 0, none⟩ = some (.pointer (some ⟨d, 0, none⟩)) := x.cd.at_ 0
    have c1 : w.cell? ⟨d, 1, none⟩ = some (.int .i64 bs.length) := by rw [x.hl]; exact x.disk.blk.at_ 1
    have hen : ∀ m w, (callFunc 273 #[.int .i64 m, .pointer (some ⟨bd, 0, none⟩), .pointer (some ⟨bb, 0, none⟩), .pointer (some ⟨bf, 0, none⟩)]).run Tryz.prog w = .ok (.enter 273 #[.int .i64 m, .pointer (some ⟨bd, 0, none⟩), .pointer (some ⟨bb, 0, none⟩), .pointer (some ⟨bf, 0, none⟩)]) w := fun m w => put_enters _ _ _ _ w
    have hl16 : bs.length ≤ 65536 := by have := x.hl; have := x.disk.ok.b1; omega
    obtain ⟨Dn, hDn⟩ : ∃ y, y = D.put s f (pad (min n bs.length).toNat bs) := ⟨_, rfl⟩
    rw [← hDn]
    by_cases hm : n ≤ bs.length
    · have hput := x.put n.toNat (by omega) 1
      rw [show pad n.toNat bs = pad (min n bs.length).toNat bs from by rw [show min n (bs.length : Int) = n from by omega], ← hDn, show ((n.toNat : Nat) : Int) = n from by omega] at hput
      have HP := Hid.intro_ hput
      clear hput hDn
      go_enter Tryz.func275, Tryz.ntmps275
      go_wp2
      go_still_tail 7, (by kernel_rfl)
      change wpList _ _ _ _ _ w.drew
      go_wp2_with (go_at_call 273; refine HP.out.mono ?_; rintro e w1 ⟨rfl, hd1⟩)
      go_end0
      exact ⟨rfl, hd1⟩
    · have hput := x.put bs.length (Nat.le_refl _) 1
      rw [show pad bs.length bs = pad (min n bs.length).toNat bs from by rw [show (min n (bs.length : Int)).toNat = bs.length from by omega], ← hDn] at hput
      have HP := Hid.intro_ hput
      clear hput hDn
      go_enter Tryz.func275, Tryz.ntmps275
      go_wp2
      go_still_tail 7, (by kernel_rfl)
      change wpList _ _ _ _ _ w.drew
      go_wp2_with (go_at_call 273; refine HP.out.mono ?_; rintro e w1 ⟨rfl, hd1⟩)
      go_end0
      exact ⟨rfl, hd1⟩
  · rw [if_neg hn]
    go_enter Tryz.func275, Tryz.ntmps275
    go_wp2
    go_end0
    exact ⟨rfl, F, R, x.disk, Stp.refl _ _⟩
end Go.Proofs.YtadipinnbehhhaaGreatDoor
namespace Go.Proofs.YtadipinnbehhhaaGreatDoor
open Go.RowKit

def DSt.append_ (D : DSt) (s : ByteArray) (bs : List Int) : DSt × Int := match D.perr s with
  | some k => (D, errNo k)
  | none => match fpos s D.files with
    | none => (D, 0)
    | some (_, f) => if f.done = true then (D, errNo 4) else if ¬ (bs.length : Int) = D.block then (D, errNo 6) else if D.room ≤ D.used then ({ D with full := wrap64 (D.full + 1) }, errNo 7) else
      D.outcome true (fun D => (D.put s f bs).appended) (partPut s f bs)

theorem store_func (a : Addr) (fn : Fn) (first cap : Array Value) (w : World) (v : Value) (h : w.cell? a = some v) (hf : w.frozen? a = false) :
    (store a (.func fn first cap)).run Tryz.prog w = .ok () (w.setCell a (.func fn first cap)) := by
  rw [run_store _ _ _ _ _ rfl, h]
  simp [hf]

theorem AppCtx.next {w w1 : World} {F : Nat → Prop} {d bp bd bb bf i : Nat} {D D' : DSt} {R : DRep} {s : ByteArray} {f : AFile} {r : Nat × Value} {a : Addr} {c : Nat} {bs : List Int} (x : AppCtx w F d bp bd bb bf i D R s f r a c bs)
    (h1 : DiskAt w1 F d D' R) (k : Keep (fun b => b = d) w w1) (hf : D'.files = D.files) (hb : D'.block = D.block) (hu : D'.used = D.used) (hr : D'.room = D.room) (np : bp ≠ d) (nb : bb ≠ d) (nf : bf ≠ d) : AppCtx w1 F d bp bd bb bf i D' R s f r a c bs := {
  disk := h1
  hi := by rw [hf]; exact x.hi
  hr := x.hr
  cp := cell_keep x.cp k np
  cd := x.cd.keep k (fun e => x.nd (by rw [show bd = d from e]; exact x.disk.fd))
  cb := cell_keep x.cb k nb
  cf := x.cf.keep k nf
  nd := x.nd
  hbs := x.hbs.keep k (fun cs fr h => blk_ne x.disk.blk h (by decide))
  hl := by rw [hb]; exact x.hl
  hlc := x.hlc
  h8 := x.h8
  hu := by rw [hu, hr]; exact x.hu }

theorem done_enters (a b : Nat) (w : World) : (callFunc 274 #[.pointer (some ⟨a, 0, none⟩), .pointer (some ⟨b, 0, none⟩)]).run Tryz.prog w = .ok (.enter 274 #[.pointer (some ⟨a, 0, none⟩), .pointer (some ⟨b, 0, none⟩)]) w := by
  kernel_rfl
theorem part_enters (n : Int) (a b : Nat) (w : World) : (callFunc 275 (#[.int .i64 n] ++ #[.pointer (some ⟨a, 0, none⟩), .pointer (some ⟨b, 0, none⟩)])).run Tryz.prog w = .ok (.enter 275 (#[.int .i64 n] ++ #[.pointer (some ⟨a, 0, none⟩), .pointer (some ⟨b, 0, none⟩)])) w := by
  kernel_rfl

theorem act_append {w : World} {F : Nat → Prop} {d bp bd bb bf i : Nat} {D : DSt} {R : DRep} {E : Nat → Addr} {s : ByteArray} {f : AFile} {r : Nat × Value} {a : Addr} {c : Nat} {bs : List Int} (x : AppCtx w F d bp bd bb bf i D R s f r a c bs) (he : Env w F E) (np : bp ≠ d) (nb : bb ≠ d) (nf : bf ≠ d) :
    Calls Tryz.prog 188 #[.pointer (some ⟨d, 0, none⟩), .bool true, .func (.func 274) #[] #[.pointer (some ⟨bp, 0, none⟩), .pointer (some ⟨bd, 0, none⟩)], .func (.func 275) #[] #[.pointer (some ⟨bp, 0, none⟩), .pointer (some ⟨bd, 0, none⟩)]] w fun e w' =>
      ∃ v, e = .returned v ∧ ErrV E v (D.outcome true (fun D => (D.put s f bs).appended) (partPut s f bs)).2 ∧ DiskTo d F (D.outcome true (fun D => (D.put s f bs).appended) (partPut s f bs)).1 w w' :=
  act_v d D R F E true _ _ _ _ (fun D => (D.put s f bs).appended) (partPut s f bs) w x.disk he (fun w => done_enters _ _ w) (fun n w => part_enters n _ _ w)
    (fun _ h1 k1 => append_done (x.next h1 k1 rfl rfl rfl rfl np nb nf)) (fun n _ h1 k1 => append_part (x.next h1 k1 rfl rfl rfl rfl np nb nf) n)

set_option maxRecDepth 100000 in
set_option maxHeartbeats 2000000 in
theorem append_bad (d : Nat) (D : DSt) (R : DRep) (F : Nat → Prop) (E : Nat → Addr) (s : ByteArray) (k : Nat) (A : Option Addr) (n c : Nat) (w : World) (h : DiskAt w F d D R) (he : Env w F E) (hp : D.perr s = some k) :
    Calls Tryz.prog 237 #[.pointer (some ⟨d, 0, none⟩), .string s, .slice A n c] w (DPost d F w D (errNo k)) := by
  have HP := Hid.intro_ hp
  have hk := perr_lt hp
  have hk0 := ((Keep.refl Nil w).alloc (.cells #[.pointer (some ⟨d, 0, none⟩)] 31)).alloc (.cells #[.slice A n c] 161)
  have h0 := h.nil hk0
  have he0 := he.nil hk0
  clear hp
  go_enter Tryz.func237, Tryz.ntmps237
  go_wp2_with (first
    | (go_at_call 198; refine (powered_bad d D R F E s k _ h0 he0 HP.out).mono ?_; rintro e w1 ⟨rfl, hd1⟩)
    | (go_at_call 186; refine (told_about s E k _ hk (by exact (he0.nil (hd1.keep.alloc _)).errs)).mono ?_; rintro e w2 ⟨rfl, hk2⟩))
  go_ret
  exact ⟨rfl, (DiskTo.of_keep h (Keep.refl _ _)).nil (hk0.then_ ((hd1.keep.alloc _).then_ hk2))⟩

set_option maxRecDepth 100000 in
set_option maxHeartbeats 4000000 in
theorem append_any (d : Nat) (D : DSt) (R : DRep) (F : Nat → Prop) (E : Nat → Addr) (s : ByteArray) (a : Addr) (c : Nat) (bs : List Int) (w : World) (h : DiskAt w F d D R) (he : Env w F E)
    (hbs : BytesAt w a bs) (hlc : bs.length ≤ c) (h8 : ∀ x ∈ bs, 0 ≤ x ∧ x ≤ 255) :
    Calls Tryz.prog 237 #[.pointer (some ⟨d, 0, none⟩), .string s, .slice (some a) bs.length c] w (DPost d F w (D.append_ s bs).1 (D.append_ s bs).2) := by
  unfold DSt.append_
  cases hp : D.perr s with
  | some k => exact append_bad d D R F E s k (some a) bs.length c w h he hp
  | none =>
    obtain ⟨ho, hn, i, f, hf⟩ := perr_on hp
    obtain ⟨r, hr, hi⟩ := fpos_reps h hf
    simp only [hf]
    have HO := Hid.intro_ ho
    have HN := Hid.intro_ hn
    have HF := Hid.intro_ hf
    have HR := Hid.intro_ hr
    have HI := Hid.intro_ hi
    have hfi := h.file i _ r hi hr
    have c0 : w.cell? ⟨r.1, 0, none⟩ = some (.int .i64 (if f.done = true then 1 else 0)) := hfi.blk.at_ 0
    have lr := hfi.blk.lt
    have ld := h.blk.lt
    have lr1 : r.1 < w.heap.size + 1 := by omega
    have lr2 : r.1 < w.heap.size + 1 + 1 := by omega
    have ld1 : d < w.heap.size + 1 := by omega
    have ld2 : d < w.heap.size + 1 + 1 := by omega
    have hk0 := ((Keep.refl Nil w).alloc (.cells #[.pointer (some ⟨d, 0, none⟩)] 31)).alloc (.cells #[.slice (some a) bs.length c] 161)
    have h0 := h.nil hk0
    have he0 := he.nil hk0
    have hk1 := hk0.alloc (.cells #[.pointer (some ⟨r.1, 0, none⟩)] 158)
    have h1 := h.nil hk1
    have he1 := he.nil hk1
    have b1 : w.cell? ⟨d, 1, none⟩ = some (.int .i64 D.block) := h.blk.at_ 1
    have b2 : w.cell? ⟨d, 2, none⟩ = some (.int .i64 D.room) := h.blk.at_ 2
    have b10 : w.cell? ⟨d, 10, none⟩ = some (.int .i64 D.used) := h.blk.at_ 10
    have b9 : w.cell? ⟨d, 9, none⟩ = some (.int .i64 D.full) := h.blk.at_ 9
    have f9 : w.frozen? ⟨d, 9, none⟩ = false := h.blk.fr 9
    clear hp ho hn hf hr hi
    by_cases hd : f.done = true
    · rw [if_pos hd]
      rw [if_pos hd] at c0
      have v4 : w.cell? ⟨4, 0, none⟩ = some (.iface 421 (.pointer (some (E 4)))) := he.errs.var 4 (by decide)
      have l4 := cell_lt v4
      simp only at l4
      have p4 := Nat.lt_of_le_of_lt (Nat.zero_le _) l4
      have m4 := Nat.lt_succ_of_lt l4
      have n4 := Nat.lt_succ_of_lt m4
      go_enter Tryz.func237, Tryz.ntmps237
      go_wp2_with (first
        | (go_at_call 198; refine (powered_ok d D R F s i f r _ h0 HO.out HN.out HF.out HR.out).mono ?_; rintro e w' ⟨rfl, rfl⟩)
        | (go_at_call 186; refine (told_about s E 4 _ (by decide) he1.errs).mono ?_; rintro e w2 ⟨rfl, hk2⟩))
      go_ret
      exact ⟨rfl, (DiskTo.of_keep h (Keep.refl _ _)).nil (hk1.then_ hk2)⟩
    rw [if_neg hd]
    rw [if_neg hd] at c0
    by_cases hbl : ¬ (bs.length : Int) = D.block
    · rw [if_pos hbl]
      have v6 : w.cell? ⟨7, 0, none⟩ = some (.iface 421 (.pointer (some (E 6)))) := he.errs.var 6 (by decide)
      have l6 := cell_lt v6
      simp only at l6
      have p6 := Nat.lt_of_le_of_lt (Nat.zero_le _) l6
      have m6 := Nat.lt_succ_of_lt l6
      have n6 := Nat.lt_succ_of_lt m6
      have hq : ((bs.length : Int) == D.block) = false := by simpa using hbl
      clear hbl
      go_enter Tryz.func237, Tryz.ntmps237
      go_wp2_with (go_at_call 198; refine (powered_ok d D R F s i f r _ h0 HO.out HN.out HF.out HR.out).mono ?_; rintro e w' ⟨rfl, rfl⟩)
      go_region
      go_wp2_with (go_at_call 186; refine (told_about s E 6 _ (by decide) (by exact (he1.nil ((Keep.refl Nil _).drew)).errs)).mono ?_; rintro e w2 ⟨rfl, hk2⟩)
      go_ret
      exact ⟨rfl, (DiskTo.of_keep h (Keep.refl _ _)).nil ((hk1.drew).then_ hk2)⟩
    rw [if_neg hbl]
    have hbl' : (bs.length : Int) = D.block := by omega
    clear hbl
    by_cases hu : D.room ≤ D.used
    · rw [if_pos hu]
      have v7 : w.cell? ⟨8, 0, none⟩ = some (.iface 421 (.pointer (some (E 7)))) := he.errs.var 7 (by decide)
      have l7 := cell_lt v7
      simp only at l7
      have p7 := Nat.lt_of_le_of_lt (Nat.zero_le _) l7
      have m7 := Nat.lt_succ_of_lt l7
      have n7 := Nat.lt_succ_of_lt m7
      have hq : ((bs.length : Int) == D.block) = true := by simpa using hbl'
      have nv : ¬ d = 8 := fun e => he.nv 7 (by decide) (by rw [show errVar 7 = d from e.symm]; exact h.fd)
      have k9 := (Keep.refl (fun b => b = d) w).setCell (p := ⟨d, 9, none⟩) (fun _ => rfl) (.int .i64 (wrap64 (D.full + 1)))
      have hD9 := DiskAt.turn (D' := { D with full := wrap64 (D.full + 1) }) h k9 (Blk.set_ h.blk 9 _) rfl rfl (by
        obtain ⟨a1, a2, a3, a4, a5, a6, a7, a8, a9, a10, a11⟩ := h.ok
        exact ⟨a1, a2, a3, a4, a5, a6, a7, a8, a9, a10, a11⟩)
      have hkn := (((((Keep.refl Nil (w.setCell ⟨d, 9, none⟩ (.int .i64 (wrap64 (D.full + 1))))).alloc (.cells #[.pointer (some ⟨d, 0, none⟩)] 31)).alloc (.cells #[.slice (some a) bs.length c] 161)).alloc (.cells #[.pointer (some ⟨r.1, 0, none⟩)] 158)).drew.drew)
      have he9 := (he.step ⟨k9.mono (fun b _ e => by rw [show b = d from e]; exact h.fd), fun b hb => .inl hb⟩).nil hkn
      have hto := (DiskTo.of_keep hD9 k9).nil hkn
      clear hbl'
      go_enter Tryz.func237, Tryz.ntmps237
      go_wp2_with (go_at_call 198; refine (powered_ok d D R F s i f r _ h0 HO.out HN.out HF.out HR.out).mono ?_; rintro e w' ⟨rfl, rfl⟩)
      go_region
      go_wp2
      go_region
      go_wp2_with (go_at_call 186; refine (told_about s E 7 _ (by decide) (by exact he9.errs)).mono ?_; rintro e w2 ⟨rfl, hk2⟩)
      go_ret
      exact ⟨rfl, hto.nil hk2⟩
    · rw [if_neg hu]
      have hq : ((bs.length : Int) == D.block) = true := by simpa using hbl'
      have hmf : ∀ (fn : Fn) (first cap : Array Value) (w : World), (Instr.makeFunc fn first cap).run Tryz.prog w = .ok (.func fn first cap) w := fun _ _ _ _ => rfl
      have hsf := @store_func
      obtain ⟨Dn, hDn⟩ : ∃ x, x = D.outcome true (fun D => (D.put s f bs).appended) (partPut s f bs) := ⟨_, rfl⟩
      rw [← hDn]
      have HDn := Hid.intro_ hDn
      have hkA := (hk1.drew.drew).alloc (.cells #[.func (.func 273) #[] #[.pointer (some ⟨w.heap.size, 0, none⟩), .pointer (some ⟨w.heap.size + 1, 0, none⟩), .pointer (some ⟨w.heap.size + 1 + 1, 0, none⟩)]] 299)
      have zA : (((w.alloc (.cells #[.pointer (some ⟨d, 0, none⟩)] 31)).alloc (.cells #[.slice (some a) bs.length c] 161)).alloc (.cells #[.pointer (some ⟨r.1, 0, none⟩)] 158)).heap.size = w.heap.size + 1 + 1 + 1 := by simp
      have x := (show AppCtx _ F d (w.heap.size + 1 + 1 + 1) w.heap.size (w.heap.size + 1) (w.heap.size + 1 + 1) i D R s f r a c bs from
        { disk := h.nil hkA, hi := HI.out, hr := HR.out, cp := (Blk.new_at _ _ _ zA).at_ 0, cd := (((Blk.new_at w _ _ rfl).alloc _).alloc _).alloc _, cb := (((Blk.new_at _ _ _ (by simp)).alloc _).alloc _).at_ 0,
          cf := (Blk.new_at _ _ _ (by simp)).alloc _, nd := fun hb => Nat.lt_irrefl _ (h.lt _ hb), hbs := hbs.nil hkA, hl := hbl', hlc := hlc, h8 := h8, hu := by omega })
      have hact := act_append (E := E) x (he.nil hkA) (fun e => by omega) (fun e => by omega) (fun e => by omega)
      rw [← HDn.out] at hact
      clear hbl' hDn x
      go_enter Tryz.func237, Tryz.ntmps237
      go_wp2_with (go_at_call 198; refine (powered_ok d D R F s i f r _ h0 HO.out HN.out HF.out HR.out).mono ?_; rintro e w' ⟨rfl, rfl⟩)
      go_region
      go_wp2
      go_region
      go_wp2_with (first
        | (go_at_call 188; refine hact.mono ?_
           rintro e w1 ⟨v, rfl, hv, hD1⟩)
        | (go_at_call 186; refine (told_v E _ _ _ hv ?hE2).mono ?_
           case hE2 => exact hD1.env (he.nil hkA)
           rintro e w2 ⟨rfl, hk2⟩))
      go_ret
      exact ⟨rfl, (hD1.nil hk2).from_nil hkA⟩
end Go.Proofs.YtadipinnbehhhaaGreatDoor
