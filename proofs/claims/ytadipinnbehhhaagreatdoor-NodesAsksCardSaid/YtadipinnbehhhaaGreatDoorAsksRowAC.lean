/- The reference's Sum: the walk. Small functions: how many records a block holds; kinds; numbers brought into a range. The reference's Encode: records as a block. The reference's Encode: the walk. The numbers of the mutex's functions and types in this seat's program, and that the program holds them. The purse: what its methods do. The purse's calls that lock: Take, Give, Used, Free, Peak, New. The desk: a disk and a purse together; what a stream is. -/
import Derived.Test.YtadipinnbehhhaaGreatDoorProg
import Derived.Conc.MuLone
import Derived.KernelRfl
import Derived.Deep.RegionHeld3
import Derived.StillTailTactics
import Derived.Deep.RegionWith
import Derived.Test.YtadipinnbehhhaaGreatDoorAsksRowAB
import Derived.Test.YtadipinnbehhhaaGreatDoorAsksRowAA
namespace Go.Proofs.YtadipinnbehhhaaGreatDoor
open Go.RowKit

def bitsN : Nat → Nat → Nat
  | 0, s => s
  | n + 1, s => bit1 (bitsN n s)
theorem bit1_odd {y : Nat} (h : y % 2 = 1) : bit1 y = (y / 2) ^^^ 3988292384 := by
  unfold bit1
  have : y.testBit 0 = true := by rw [Nat.testBit_zero]; simpa using h
  rw [if_pos this, Nat.shiftRight_eq_div_pow]
theorem bit1_ev {y : Nat} (h : ¬ y % 2 = 1) : bit1 y = y / 2 := by
  unfold bit1
  have : y.testBit 0 = false := by rw [Nat.testBit_zero]; simpa using h
  rw [if_neg (by simp [this]), Nat.shiftRight_eq_div_pow, Nat.xor_zero]
set_option maxRecDepth 100000 in
set_option maxHeartbeats 4000000 in
theorem rsum_any (g off cap : Nat) (bs : List Nat) (w : World) (hc : ∀ (j : Nat) (c : Nat), bs[j]? = some c → w.cell? ⟨g, off + j, none⟩ = some (.int .u8 c)) (h8 : ∀ c ∈ bs, c < 256) (hl : bs.length ≤ 9223372036854775807) :
    Calls Tryz.prog 146 #[.slice (some ⟨g, off, none⟩) bs.length cap] w fun e w' => e = .returned (.int .u32 (crc bs)) ∧ w' = w := by
  have HC := Hid.intro_ hc
  have H8 := Hid.intro_ h8
  clear hc h8
  go_enter Tryz.func146, Tryz.ntmps146
  go_wp2
  go_loop [3, 4] (fun s i => ∃ k x : Nat, k ≤ bs.length ∧ i = .int .i64 k ∧ s = .int .u32 x ∧ x < 4294967296 ∧ x = crcAll 4294967295 (bs.take k)) (fun _ i => bs.length - (intOf i).toNat)
  case atStart => exact ⟨0, 4294967295, Nat.zero_le _, rfl, rfl, by decide, rfl⟩
  case round =>
    obtain ⟨k, x, hk, rfl, rfl, hx, hs⟩ := hrel
    have HS := Hid.intro_ hs
    clear hs
    by_cases hlt : k < bs.length
    · obtain ⟨c, hcc⟩ : ∃ c, bs[k]? = some c := ⟨_, List.getElem?_eq_getElem hlt⟩
      have c0 := HC.out k c hcc
      have hc8 := H8.out c (List.mem_of_getElem? hcc)
      have hnext : crcAll 4294967295 (bs.take (k + 1)) = bitsN 8 (x ^^^ c) := by
        have htk : bs.take (k + 1) = bs.take k ++ [c] := by rw [List.take_add_one, hcc]; rfl
        rw [htk, HS.out]
        simp [crcAll, crcByte, bitsN]
      have HN := Hid.intro_ hnext
      clear hcc hnext
      have e1 := u32_xor_nat x c hx (by omega)
      have hy0 : x ^^^ c < 4294967296 := Nat.xor_lt_two_pow (n := 32) (by omega) (by omega)
      generalize x ^^^ c = y0 at *
      go_wp2
      go_loop [3, 5] (fun s j => ∃ n y : Nat, n ≤ 8 ∧ j = .int .i64 n ∧ s = .int .u32 y ∧ y < 4294967296 ∧ y = bitsN n y0) (fun _ j => 8 - (intOf j).toNat)
      case atStart => exact ⟨0, y0, by omega, rfl, rfl, hy0, rfl⟩
      case round =>
        obtain ⟨n, y, hn, rfl, rfl, hy, hb⟩ := hrel
        have HB := Hid.intro_ hb
        clear hb
        by_cases h8 : n < 8
        · by_cases ho : y % 2 = 1
          · have q : (((y : Int) % 2) == 1) = true := by simp; omega
            have e2 : bits .xor .u32 ((y : Int) / 2) 3988292384 = (((y / 2) ^^^ 3988292384 : Nat) : Int) := u32_xor_nat (y / 2) 3988292384 (by omega) (by decide)
            have hst : bitsN (n + 1) y0 = (y / 2) ^^^ 3988292384 := by show bit1 (bitsN n y0) = _; rw [← HB.out, bit1_odd ho]
            have HST := Hid.intro_ hst
            have hz : (y / 2) ^^^ 3988292384 < 4294967296 := Nat.xor_lt_two_pow (n := 32) (by omega) (by decide)
            generalize (y / 2) ^^^ 3988292384 = z at *
            clear ho hst
            go_wp2
            go_round
            case rel => exact ⟨n + 1, z, by omega, by go_num, rfl, hz, HST.out.symm⟩
            case measure => simp [intOf]; omega
          · have q : (((y : Int) % 2) == 1) = false := by simp; omega
            have hst : bitsN (n + 1) y0 = y / 2 := by show bit1 (bitsN n y0) = _; rw [← HB.out, bit1_ev ho]
            have HST := Hid.intro_ hst
            clear ho hst
            go_wp2
            go_round
            case rel => exact ⟨n + 1, y / 2, by omega, by go_num, rfl, by omega, HST.out.symm⟩
            case measure => simp [intOf]; omega
        · obtain rfl : n = 8 := by omega
          go_wp2
          go_round
          case rel => exact ⟨k + 1, y, by omega, by go_num, rfl, hy, by rw [HN.out]; exact HB.out⟩
          case measure => simp [intOf]; omega
    · have hx2 : x = crcAll 4294967295 bs := by rw [HS.out, List.take_of_length_le (by omega)]
      have HX := Hid.intro_ hx2
      clear hx2
      go_wp2
      go_ret
      refine ⟨?_, rfl⟩
      have hcr : crc bs = 4294967295 - x := by rw [HX.out]; rfl
      exact congrArg (fun z => Ending.returned (.int .u32 z)) (by rw [hcr]; omega)
end Go.Proofs.YtadipinnbehhhaaGreatDoor
namespace Go.Proofs.YtadipinnbehhhaaGreatDoor
open Go.RowKit

/-- How many records a block holds. -/
def fit (b : Int) : Int := if b < 64 ∨ 65536 < b ∨ ¬ b % 32 = 0 then 0 else b / 32 - 1
set_option maxHeartbeats 1000000 in
theorem fit_any (b : Int) (w : World) : Calls Tryz.prog 122 #[.int .i64 b] w fun e w' => e = .returned (.int .i64 (fit b)) ∧ w' = w := by
  unfold fit
  by_cases h1 : b < 64
  · rw [if_pos (.inl h1)]
    go_enter Tryz.func122, Tryz.ntmps122
    go_wp2
    go_ret
    exact ⟨rfl, rfl⟩
  by_cases h2 : 65536 < b
  · rw [if_pos (.inr (.inl h2))]
    go_enter Tryz.func122, Tryz.ntmps122
    go_wp2
    go_ret
    exact ⟨rfl, rfl⟩
  by_cases h3 : b % 32 = 0
  · rw [if_neg (by omega)]
    obtain ⟨n, rfl⟩ : ∃ n : Nat, b = n := ⟨b.toNat, by omega⟩
    have q : (((n : Int) % 32) == 0) = true := by simp; omega
    go_enter Tryz.func122, Tryz.ntmps122
    go_wp2
    go_ret
    exact ⟨rfl, rfl⟩
  · rw [if_pos (.inr (.inr h3))]
    obtain ⟨n, rfl⟩ : ∃ n : Nat, b = n := ⟨b.toNat, by omega⟩
    have q : (((n : Int) % 32) == 0) = false := by simp; omega
    go_enter Tryz.func122, Tryz.ntmps122
    go_wp2
    go_ret
    exact ⟨rfl, rfl⟩
set_option maxHeartbeats 1000000 in
theorem rfit_any (b : Int) (w : World) : Calls Tryz.prog 10 #[.int .i64 b] w fun e w' => e = .returned (.int .i64 (fit b)) ∧ w' = w := by
  unfold fit
  by_cases h1 : b < 64
  · rw [if_pos (.inl h1)]
    go_enter Tryz.func10, Tryz.ntmps10
    go_wp2
    go_ret
    exact ⟨rfl, rfl⟩
  by_cases h2 : 65536 < b
  · rw [if_pos (.inr (.inl h2))]
    go_enter Tryz.func10, Tryz.ntmps10
    go_wp2
    go_ret
    exact ⟨rfl, rfl⟩
  by_cases h3 : b % 32 = 0
  · rw [if_neg (by omega)]
    obtain ⟨n, rfl⟩ : ∃ n : Nat, b = n := ⟨b.toNat, by omega⟩
    have q : (((n : Int) % 32) == 0) = true := by simp; omega
    go_enter Tryz.func10, Tryz.ntmps10
    go_wp2
    go_ret
    exact ⟨rfl, rfl⟩
  · rw [if_pos (.inr (.inr h3))]
    obtain ⟨n, rfl⟩ : ∃ n : Nat, b = n := ⟨b.toNat, by omega⟩
    have q : (((n : Int) % 32) == 0) = false := by simp; omega
    go_enter Tryz.func10, Tryz.ntmps10
    go_wp2
    go_ret
    exact ⟨rfl, rfl⟩
set_option maxHeartbeats 1000000 in
theorem known_any (k : Int) (w : World) : Calls Tryz.prog 124 #[.int .i64 k] w fun e w' => e = .returned (.bool (decide (1 ≤ k) && decide (k ≤ 5))) ∧ w' = w := by
  by_cases h1 : 1 ≤ k
  · rw [decide_eq_true h1, Bool.true_and]
    go_enter Tryz.func124, Tryz.ntmps124
    go_wp2
    go_ret
    exact ⟨rfl, rfl⟩
  · rw [decide_eq_false h1, Bool.false_and]
    have q : decide (1 ≤ k) = false := decide_eq_false h1
    clear h1
    go_enter Tryz.func124, Tryz.ntmps124
    go_wp2
    go_ret
    exact ⟨rfl, rfl⟩
def within (v n : Int) : Int := if v < 0 then (-(v + 1)) % n else v % n
set_option maxHeartbeats 1000000 in
theorem within_any (v n : Int) (hv : -9223372036854775808 ≤ v ∧ v ≤ 9223372036854775807) (hn : 0 < n ∧ n ≤ 9223372036854775807) (w : World) :
    Calls Tryz.prog 47 #[.int .i64 v, .int .i64 n] w fun e w' => e = .returned (.int .i64 (within v n)) ∧ w' = w := by
  unfold within
  obtain ⟨m, rfl⟩ : ∃ m : Nat, n = m := ⟨n.toNat, by omega⟩
  have q0 : ¬ (m : Int) = 0 := by omega
  by_cases h1 : v < 0
  · rw [if_pos h1]
    obtain ⟨x, hx⟩ : ∃ x : Nat, -(v + 1) = x := ⟨(-(v + 1)).toNat, by omega⟩
    have e1 : -((v + 1).tmod (m : Int)) = (x : Int) % (m : Int) := by
      rw [← Int.neg_tmod, hx]; exact Int.tmod_eq_emod_of_nonneg (by omega)
    rw [hx, ← e1]
    clear e1 hx
    go_enter Tryz.func47, Tryz.ntmps47
    go_wp2
    go_ret
    exact ⟨rfl, rfl⟩
  · rw [if_neg h1]
    obtain ⟨x, rfl⟩ : ∃ x : Nat, v = x := ⟨v.toNat, by omega⟩
    go_enter Tryz.func47, Tryz.ntmps47
    go_wp2
    go_ret
    exact ⟨rfl, rfl⟩
set_option maxHeartbeats 1000000 in
theorem lblock_any (v : Int) (hv : -9223372036854775808 ≤ v ∧ v ≤ 9223372036854775807) (w : World) :
    Calls Tryz.prog 9 #[.int .i64 v] w fun e w' => e = .returned (.int .i64 (64 + 32 * within v 9)) ∧ w' = w := by
  have hw := within_any v 9 hv (by omega)
  have hb : 0 ≤ within v 9 ∧ within v 9 < 9 := by unfold within; split <;> omega
  generalize within v 9 = x at *
  go_enter Tryz.func9, Tryz.ntmps9
  go_wp2_with (go_at_call 47; refine (hw _).mono ?_; rintro e w' ⟨rfl, rfl⟩)
  go_ret
  exact ⟨rfl, rfl⟩
set_option maxHeartbeats 1000000 in
theorem huge_any (n : Int) (w : World) : Calls Tryz.prog 8 #[.int .i64 n] w fun e w' => e = .returned (.bool (decide (268435456 < n))) ∧ w' = w := by
  go_enter Tryz.func8, Tryz.ntmps8
  go_wp2
  go_ret
  exact ⟨rfl, rfl⟩
end Go.Proofs.YtadipinnbehhhaaGreatDoor
namespace Go.Proofs.YtadipinnbehhhaaGreatDoor
open Go.RowKit

/-- A record: its four words. -/
structure R4 where
  a : Nat
  b : Nat
  c : Nat
  d : Nat
def R4.ws (r : R4) : List Nat := [r.a, r.b, r.c, r.d]
structure R4.Ok (r : R4) : Prop where
  a : r.a < 18446744073709551616
  b : r.b < 18446744073709551616
  c : r.c < 18446744073709551616
  d : r.d < 18446744073709551616
/-- Records as cells. -/
def rcCells (l : List R4) : List Value := l.flatMap fun r => r.ws.map fun (x : Nat) => Value.int .u64 x
def R4.bytes (r : R4) : List Int := loB r.a 8 ++ loB r.b 8 ++ loB r.c 8 ++ loB r.d 8
def rcBytes (l : List R4) : List Int := l.flatMap R4.bytes
/-- What stands ahead of a block's sum. -/
def encBody (kind : Int) (place : Nat) (l : List R4) (block : Nat) : List Int :=
  [83, 84, 82, 65, 1, kind] ++ loB l.length 2 ++ loB place 8 ++ loB 0 12 ++ rcBytes l ++ loB 0 (block - 32 - 32 * l.length)
def natB (bs : List Int) : List Nat := bs.map Int.toNat
/-- A block of records, as bytes. -/
def encB (kind : Int) (place : Nat) (l : List R4) (block : Nat) : List Int := encBody kind place l block ++ loB (crc (natB (encBody kind place l block))) 4
theorem rcBytes_len (l : List R4) : (rcBytes l).length = 32 * l.length := by
  induction l with
  | nil => rfl
  | cons r l ih =>
    have : rcBytes (r :: l) = r.bytes ++ rcBytes l := rfl
    rw [this, List.length_append, ih]
    simp [R4.bytes, loB_len]; omega
theorem encBody_len {kind : Int} {place block : Nat} {l : List R4} (h : 32 * l.length + 32 ≤ block) : (encBody kind place l block).length = block - 4 := by
  unfold encBody
  simp only [List.length_append, loB_len, rcBytes_len, List.length_cons, List.length_nil]
  omega
theorem loB_range (v n : Nat) : ∀ x ∈ loB v n, 0 ≤ x ∧ x ≤ 255 := by
  intro x hx
  obtain ⟨i, _, rfl⟩ := List.mem_map.1 hx
  have := Nat.mod_lt (v / 256 ^ i) (show 0 < 256 by decide)
  omega
theorem rcBytes_range (l : List R4) : ∀ x ∈ rcBytes l, 0 ≤ x ∧ x ≤ 255 := by
  intro x hx
  obtain ⟨r, _, hr⟩ := List.mem_flatMap.1 hx
  simp only [R4.bytes, List.mem_append] at hr
  rcases hr with ((hr | hr) | hr) | hr <;> exact loB_range _ _ x hr
theorem encBody_range {kind : Int} {place block : Nat} {l : List R4} (hk : 1 ≤ kind ∧ kind ≤ 255) : ∀ x ∈ encBody kind place l block, 0 ≤ x ∧ x ≤ 255 := by
  intro x hx
  simp only [encBody, List.mem_append, List.mem_cons, List.not_mem_nil, or_false] at hx
  rcases hx with ((((hx | hx) | hx) | hx) | hx) | hx
  · rcases hx with rfl | rfl | rfl | rfl | rfl | rfl <;> omega
  · exact loB_range _ _ x hx
  · exact loB_range _ _ x hx
  · exact loB_range _ _ x hx
  · exact rcBytes_range l x hx
  · exact loB_range _ _ x hx
end Go.Proofs.YtadipinnbehhhaaGreatDoor
namespace Go.Proofs.YtadipinnbehhhaaGreatDoor
open Go.RowKit

theorem six_own (w : World) (a b c d e f : Value) : (w.alloc (.cells #[a, b, c, d, e, f] 5)).ownsRow w.heap.size 5 1 (.slice (some ⟨w.heap.size, 0, none⟩) 6 6) 6 [a, b, c, d, e, f] :=
  ⟨rfl, .inr ⟨w.heap.size, 6, #[a, b, c, d, e, f], rfl, Nat.le_refl _, Blk.new w _ _, Nat.le_refl _, by decide, rfl, rfl⟩⟩
theorem rc_at : ∀ (l : List R4) (k j : Nat) (q : R4), l[k]? = some q → j < 4 → (rcCells l)[k * 4 + j]? = some (.int .u64 ((q.ws.getD j 0 : Nat) : Int))
  | [], _, _, _, h, _ => by simp at h
  | r :: l, 0, j, q, h, hj => by
    simp only [List.getElem?_cons_zero, Option.some.injEq] at h
    subst h
    have e : rcCells (r :: l) = (r.ws.map fun (x : Nat) => Value.int .u64 x) ++ rcCells l := rfl
    rw [e, List.getElem?_append_left (by simp [R4.ws]; omega)]
    match j, hj with
    | 0, _ => rfl
    | 1, _ => rfl
    | 2, _ => rfl
    | 3, _ => rfl
  | r :: l, k + 1, j, q, h, hj => by
    have ih := rc_at l k j q (by simpa using h) hj
    have e : rcCells (r :: l) = (r.ws.map fun (x : Nat) => Value.int .u64 x) ++ rcCells l := rfl
    rw [e, List.getElem?_append_right (by simp [R4.ws]; omega)]
    have : (k + 1) * 4 + j - (r.ws.map fun (x : Nat) => Value.int .u64 (x : Int)).length = k * 4 + j := by simp [R4.ws]; omega
    rw [this]
    exact ih
theorem ws_lt {q : R4} (h : q.Ok) (j : Nat) : q.ws.getD j 0 < 18446744073709551616 := by
  obtain ⟨a, b, c, d⟩ := h
  match j with
  | 0 => exact a
  | 1 => exact b
  | 2 => exact c
  | 3 => exact d
  | n + 4 => simp [R4.ws]
theorem ws_take (q : R4) (j : Nat) (hj : j < 4) : q.ws.take (j + 1) = q.ws.take j ++ [q.ws.getD j 0] := by
  match j, hj with
  | 0, _ => rfl
  | 1, _ => rfl
  | 2, _ => rfl
  | 3, _ => rfl
theorem flat8_len (xs : List Nat) : (xs.flatMap (fun x => loB x 8)).length = 8 * xs.length := by
  induction xs with
  | nil => rfl
  | cons a l ih => rw [List.flatMap_cons, List.length_append, ih, loB_len]; simp; omega
theorem own_base {w : World} {base : Nat} {e : TypeId} {size n : Nat} {v : Value} {xs : List Value} (h : w.ownsRow base e size v n xs) {g : Nat} (hg : v.ownBlock = some g) : base ≤ g := (h.lt g hg).1
theorem keep_own {w w1 w2 : World} {base : Nat} {e : TypeId} {size n : Nat} {v : Value} {xs : List Value} (k : Keep Nil w w1) (h : w1.ownsRow base e size v n xs) (hb : w.heap.size ≤ base) (k2 : Keep (fun b => v.ownBlock = some b) w1 w2) : Keep Nil w w2 :=
  k.trans k2 (fun b hlt e => by have := own_base h e; omega)
theorem own_slice {w : World} {base : Nat} {e : TypeId} {n : Nat} {v : Value} {xs : List Value} (h : w.ownsRow base e 1 v n xs) (hn : 0 < n) : ∃ g cap, v = .slice (some ⟨g, 0, none⟩) n cap ∧ n ≤ cap ∧ base ≤ g ∧ ∀ (j : Nat) (u : Value), xs[j]? = some u → w.cell? ⟨g, 0 + j, none⟩ = some u := by
  rcases h.2 with ⟨_, h0⟩ | ⟨g, cap, cur, e, hb, hh, hle, _⟩
  · omega
  · subst e
    refine ⟨g, cap, rfl, hle, hb, fun j u hu => ?_⟩
    obtain ⟨ad, e, hc⟩ := own_rd h j u hu
    injection e with e
    subst e
    by_cases h0 : j = 0
    · subst h0; simpa [Addr.add] using hc
    · simpa [Addr.add, h0] using hc
theorem natB_cell {bs : List Int} (h : ∀ x ∈ bs, 0 ≤ x ∧ x ≤ 255) {j c : Nat} (hj : (natB bs)[j]? = some c) : (by8 bs)[j]? = some (.int .u8 (c : Int)) ∧ c < 256 := by
  unfold natB at hj
  rw [List.getElem?_map, Option.map_eq_some_iff] at hj
  obtain ⟨x, hx, rfl⟩ := hj
  have := h x (List.mem_of_getElem? hx)
  refine ⟨?_, by omega⟩
  unfold by8
  rw [List.getElem?_map, hx, Option.map_some]
  congr 2
  omega
theorem rnumber_m (base : Nat) (s0 : Value) (v n : Nat) (x m : Int) (xs : List Int) (w : World) (ho : w.ownsRow base 5 1 s0 xs.length (by8 xs)) (hx : x = (v : Int)) (hm : m = (n : Int)) (hv : v < 18446744073709551616) (hn : n + xs.length ≤ 1099511627776) (hb : base ≤ w.heap.size) :
    Calls Tryz.prog 200 #[s0, .int .u64 x, .int .i64 m] w fun e w' => ∃ s, e = .returned s ∧ w'.ownsRow base 5 1 s (xs ++ loB v n).length (by8 (xs ++ loB v n)) ∧ Keep (fun b => s0.ownBlock = some b) w w' ∧ (s.ownBlock = s0.ownBlock ∨ ∃ g, s.ownBlock = some g ∧ w.heap.size ≤ g) := by
  subst hx hm
  exact rnumber_any base s0 v n xs w ho hv hn hb
set_option maxRecDepth 100000 in
set_option maxHeartbeats 4000000 in
theorem rencode_good (kind place block lg lo lc : Nat) (l : List R4) (w : World) (hk : 1 ≤ kind ∧ kind ≤ 255) (hp : place < 9223372036854775808) (hb : 64 ≤ block ∧ block ≤ 65536 ∧ block % 32 = 0) (hl : 1 ≤ l.length) (hf : 32 * l.length + 32 ≤ block)
    (hc : ∀ (j : Nat) (u : Value), (rcCells l)[j]? = some u → w.cell? ⟨lg, lo + j, none⟩ = some u) (hr : ∀ r ∈ l, r.Ok) :
    Calls Tryz.prog 152 #[.int .i64 kind, .int .i64 place, .slice (some ⟨lg, lo, none⟩) l.length lc, .int .i64 block] w fun e w' =>
      ∃ s, e = .returned (.tuple #[s, .int .i64 0]) ∧ w'.ownsRow w.heap.size 5 1 s block (by8 (encB kind place l block)) ∧ Keep Nil w w' := by
  have HC := Hid.intro_ hc
  have HR := Hid.intro_ hr
  have hfit : fit block = ((block / 32 - 1 : Nat) : Int) := by
    unfold fit
    rw [if_neg (by omega)]; omega
  have hft := fun w => rfit_any block w
  rw [hfit] at hft
  have hfz : ¬ ((block / 32 - 1 : Nat) : Int) = 0 := by omega
  have hfl : ¬ ((block / 32 - 1 : Nat) : Int) < (l.length : Int) := by omega
  have hq0 : (((block / 32 - 1 : Nat) : Int) == 0) = false := by rw [beq_eq_false_iff_ne]; omega
  have hl16 : l.length ≤ 2048 := by omega
  generalize block / 32 - 1 = fb at *
  have hlz : ¬ ((l.length : Int) = 0) := by omega
  have hlq : ((l.length : Int) == 0) = false := by rw [beq_eq_false_iff_ne]; omega
  clear hc hr hfit
  have hsix : (w.alloc (.cells #[.int .u8 83, .int .u8 84, .int .u8 82, .int .u8 65, .int .u8 1, .int .u8 kind] 5)).ownsRow w.heap.size 5 1 (.slice (some ⟨w.heap.size, 0, none⟩) 6 6) [83, 84, 82, 65, 1, (kind : Int)].length (by8 [83, 84, 82, 65, 1, (kind : Int)]) := six_own w _ _ _ _ _ _
  go_enter Tryz.func152, Tryz.ntmps152
  go_wp2_with (first
    | (go_at_call 10; refine (hft _).mono ?_; rintro e w' ⟨rfl, hw⟩; obtain rfl := hw.symm)
    | (go_at_call 200
       with_reducible refine (rnumber_m w.heap.size (.slice (some ⟨w.heap.size, 0, none⟩) 6 6) l.length 2 (l.length : Int) 2 [83, 84, 82, 65, 1, (kind : Int)] _ hsix rfl rfl (by omega) (by simp) (by simp)).mono ?_
       rintro e w1 ⟨s1, rfl, ho1, hk1, hb1⟩)
    | (go_at_call 200
       with_reducible refine (rnumber_m w.heap.size s1 place 8 (place : Int) 8 ([83, 84, 82, 65, 1, (kind : Int)] ++ loB l.length 2) _ ho1 rfl rfl (by omega) (by simp [loB_len]) (by have := hk1.size; simp at this; omega)).mono ?_
       rintro e w2 ⟨s2, rfl, ho2, hk2, hb2⟩)
    | (go_at_call 200
       with_reducible refine (rnumber_m w.heap.size s2 0 12 0 12 ([83, 84, 82, 65, 1, (kind : Int)] ++ loB l.length 2 ++ loB place 8) _ ho2 rfl rfl (by omega) (by simp [loB_len]) (by have := hk1.size; have := hk2.size; simp at *; omega)).mono ?_
       rintro e w3 ⟨s3, rfl, ho3, hk3, hb3⟩))
  have z3 : w.heap.size ≤ w3.heap.size := by have := hk1.size; have := hk2.size; have := hk3.size; simp at *; omega
  have kk : Keep Nil w w3 := keep_own (keep_own (keep_own ((Keep.refl Nil w).alloc _) hsix (Nat.le_refl _) hk1) ho1 (Nat.le_refl _) hk2) ho2 (Nat.le_refl _) hk3
  obtain ⟨hd, hhd⟩ : ∃ hd, hd = [83, 84, 82, 65, 1, (kind : Int)] ++ loB l.length 2 ++ loB place 8 ++ loB 0 12 := ⟨_, rfl⟩
  rw [← hhd] at ho3
  have hdl : hd.length = 28 := by rw [hhd]; simp [loB_len]
  clear ho1 ho2 hsix
  go_loopw [10, 11] (fun s i wr => ∃ (k : Nat) (r : Value), k ≤ l.length ∧ r = s ∧ i = .int .i64 k ∧ wr.ownsRow w.heap.size 5 1 r (hd ++ rcBytes (l.take k)).length (by8 (hd ++ rcBytes (l.take k))) ∧ Keep Nil w wr) (fun _ i _ => l.length - (intOf i).toNat)
  case atStart => exact ⟨0, s3, Nat.zero_le _, rfl, rfl, by simpa [rcBytes] using ho3, kk⟩
  case round =>
    obtain ⟨k, r, hk', rfl, rfl, how, hkw⟩ := hrel
    have HW := Hid.intro_ how
    clear how
    by_cases hlt : k < l.length
    · obtain ⟨q, hq⟩ : ∃ q, l[k]? = some q := ⟨_, List.getElem?_eq_getElem hlt⟩
      have hqo := HR.out q (List.mem_of_getElem? hq)
      have HQ := Hid.intro_ hq
      clear hq
      go_wp2
      go_loopw [10, 12] (fun s i wr => ∃ (j : Nat) (r2 : Value), j ≤ 4 ∧ r2 = s ∧ i = .int .i64 j ∧ wr.ownsRow w.heap.size 5 1 r2 (hd ++ rcBytes (l.take k) ++ (q.ws.take j).flatMap (fun x => loB x 8)).length (by8 (hd ++ rcBytes (l.take k) ++ (q.ws.take j).flatMap (fun x => loB x 8))) ∧ Keep Nil w wr) (fun _ i _ => 4 - (intOf i).toNat)
      case atStart => exact ⟨0, r, by omega, rfl, rfl, by simpa using HW.out, hkw⟩
      case round =>
        obtain ⟨j, r2, hj, rfl, rfl, how2, hkw2⟩ := hrel
        have HW2 := Hid.intro_ how2
        clear how2
        by_cases hj4 : j < 4
        · have cw : wr.cell? ⟨lg, lo + k * 4 + j, none⟩ = some (.int .u64 ((q.ws.getD j 0 : Nat) : Int)) := by
            have := HC.out (k * 4 + j) _ (rc_at l k j q HQ.out hj4)
            rw [← Nat.add_assoc] at this
            exact cell_keep this hkw2 (fun h => h)
          have hx := ws_lt hqo j
          have htk := Hid.intro_ (ws_take q j hj4)
          generalize q.ws.getD j 0 = x at *
          have hlen : 8 + (hd ++ rcBytes (l.take k) ++ (q.ws.take j).flatMap (fun x => loB x 8)).length ≤ 1099511627776 := by
            rw [List.length_append, List.length_append, hdl, rcBytes_len, flat8_len, List.length_take, List.length_take]
            omega
          have hsz : w.heap.size ≤ wr.heap.size := hkw2.size
          go_wp2_with (go_at_call 200
                       refine (rnumber_m w.heap.size r2 x 8 (x : Int) 8 _ _ HW2.out rfl rfl hx hlen hsz).mono ?_
                       rintro e w4 ⟨s4, rfl, ho4, hk4, hb4⟩)
          have hX : hd ++ rcBytes (l.take k) ++ (q.ws.take j).flatMap (fun x => loB x 8) ++ loB x 8 = hd ++ rcBytes (l.take k) ++ (q.ws.take (j + 1)).flatMap (fun x => loB x 8) := by
            rw [htk.out, List.flatMap_append]; simp
          rw [hX] at ho4
          have hk5 := keep_own hkw2 HW2.out (Nat.le_refl _) hk4
          go_roundw
          case rel => exact ⟨j + 1, s4, by omega, rfl, by go_num, ho4, hk5⟩
          case measure => simp [intOf]; omega
        · obtain rfl : j = 4 := by omega
          have hX : hd ++ rcBytes (l.take k) ++ (q.ws.take 4).flatMap (fun x => loB x 8) = hd ++ rcBytes (l.take (k + 1)) := by
            have e1 : l.take (k + 1) = l.take k ++ [q] := by rw [List.take_add_one, HQ.out]; rfl
            have e2 : (q.ws.take 4).flatMap (fun x => loB x 8) = q.bytes := by simp [R4.ws, R4.bytes]
            rw [e1, e2]
            simp [rcBytes]
          have how3 := HW2.out
          rw [hX] at how3
          have HW3 := Hid.intro_ how3
          clear how3 hX
          go_wp2
          go_roundw
          case rel => exact ⟨k + 1, r2, by omega, rfl, by go_num, HW3.out, hkw2⟩
          case measure => simp [intOf]; omega
    · obtain rfl : k = l.length := by omega
      have hL := HW.out
      rw [List.take_length] at hL
      have hlen : (hd ++ rcBytes l).length = 28 + 32 * l.length := by rw [List.length_append, hdl, rcBytes_len]
      have hr0 : ∃ g cap, r = .slice (some ⟨g, 0, none⟩) (28 + 32 * l.length) cap := by
        rcases hL.2 with ⟨_, h0⟩ | ⟨g, cap, cur, e, _⟩
        · rw [hlen] at h0; omega
        · rw [hlen] at e; exact ⟨g, cap, e⟩
      obtain ⟨g, cap, rfl⟩ := hr0
      have HL := Hid.intro_ hL
      clear hL
      have hz4 : (block : Int) - 4 - ((28 + 32 * l.length : Nat) : Int) = ((block - 32 - 32 * l.length : Nat) : Int) := by omega
      have hbody : hd ++ rcBytes l ++ loB 0 (block - 32 - 32 * l.length) = encBody kind place l block := by rw [hhd]; rfl
      have hbl : (encBody (kind : Int) place l block).length = block - 4 := encBody_len hf
      have hbr := encBody_range (place := place) (block := block) (l := l) (kind := (kind : Int)) (by omega)
      generalize hB : encBody (kind : Int) place l block = body at *
      have hcr : crc (natB body) < 4294967296 := by unfold crc; omega
      have hm4 : (block : Int) - 4 - (28 + 32 * (l.length : Int)) = ((block - 32 - 32 * l.length : Nat) : Int) := by omega
      have hln : block - 32 - 32 * l.length + (hd ++ rcBytes l).length ≤ 1099511627776 := by omega
      have hzero := rnumber_m w.heap.size _ 0 (block - 32 - 32 * l.length) 0 _ (hd ++ rcBytes l) _ HL.out rfl hm4 (by decide) hln hkw.size
      have HB := Hid.intro_ hB
      have HBR := Hid.intro_ hbr
      have HM4 := Hid.intro_ hm4
      clear hz4 hbr hB hm4
      go_wp2_with (first
        | (go_at_call 200
           with_reducible refine (hzero).mono ?_
           rintro e w5 ⟨s5, rfl, ho5, hk5, hb5⟩
           rw [hbody, hbl] at ho5
           have hk6 := keep_own hkw HL.out (Nat.le_refl _) hk5
           obtain ⟨g5, cap5, rfl, hc5, hg5, hcell⟩ := own_slice ho5 (by omega)
           have hsum := rsum_any g5 0 cap5 (natB body) w5 (fun j c hj => hcell j _ (natB_cell HBR.out hj).1) (fun c hc => by obtain ⟨j, hj⟩ := List.mem_iff_getElem?.1 hc; exact (natB_cell HBR.out hj).2) (by simp [natB, hbl]; omega)
           rw [show (natB body).length = block - 4 by simp [natB, hbl]] at hsum
           have HO5 := Hid.intro_ ho5
           clear hcell ho5 hk5 hb5)
        | (go_at_call 146; refine hsum.mono ?_; rintro e w' ⟨rfl, hw⟩; obtain rfl := hw.symm))
      have hlast := rnumber_m w.heap.size (.slice (some ⟨g5, 0, none⟩) (block - 4) cap5) (crc (natB body)) 4 ((crc (natB body) : Nat) : Int) 4 body w5 (by rw [hbl]; exact HO5.out) rfl rfl (by omega) (by omega) hk6.size
      with_reducible refine hlast.mono ?_
      rintro e w6 ⟨s6, rfl, ho6, hk7, hb6⟩
      have hk8 := keep_own hk6 HO5.out (Nat.le_refl _) hk7
      have hfin : w6.ownsRow w.heap.size 5 1 s6 block (by8 (encB kind place l block)) := by
        unfold encB
        rw [HB.out]
        have e : (body ++ loB (crc (natB body)) 4).length = block := by rw [List.length_append, loB_len, hbl]; omega
        rw [e] at ho6
        exact ho6
      have HFin := Hid.intro_ hfin
      clear hfin ho6 hlast
      go_wp2
      go_ret2
      exact ⟨s6, rfl, HFin.out, hk8⟩
end Go.Proofs.YtadipinnbehhhaaGreatDoor
namespace Go.Proofs.YtadipinnbehhhaaGreatDoor
abbrev muLink : Go.Conc.Locks.MuLink := { lock := 130, unlock := 131, ilock := 190, iunlock := 191, lockSlow := 232, unlockSlow := 235, disable := 228, enable := 230, acquire := 231, relMerge := 233, cas32 := 229, add32 := 234, tMutex := 240, tIMutex := 238, tPMutex := 216, tPIMutex := 347, tPI32 := 349, tUP := 351, tNoCopy := 235, tU32 := 236 }
theorem muLib : Go.Conc.Locks.MuLib Tryz.prog muLink :=
  ⟨Tryz.func130, Tryz.func131, Tryz.func190, Tryz.func191, Tryz.func228, Tryz.func230, Tryz.func231, Tryz.func233, Tryz.func229, Tryz.func234,
   Tryz.underlying238, Tryz.runUnderlying238, Tryz.sizeOf238, Tryz.isAgg238, Tryz.zeroValue238,
   Tryz.underlying240, Tryz.runUnderlying240, Tryz.sizeOf240, Tryz.isAgg240, Tryz.zeroValue240,
   Tryz.underlying216, Tryz.runUnderlying216, Tryz.sizeOf216, Tryz.isAgg216, Tryz.zeroValue216,
   Tryz.underlying347, Tryz.runUnderlying347, Tryz.sizeOf347, Tryz.isAgg347, Tryz.zeroValue347,
   Tryz.underlying349, Tryz.runUnderlying349, Tryz.sizeOf349, Tryz.isAgg349, Tryz.zeroValue349,
   Tryz.underlying351, Tryz.runUnderlying351, Tryz.sizeOf351, Tryz.isAgg351, Tryz.zeroValue351,
   Tryz.underlying235, Tryz.runUnderlying235, Tryz.sizeOf235, Tryz.isAgg235, Tryz.zeroValue235,
   Tryz.underlying21, Tryz.runUnderlying21, Tryz.sizeOf21, Tryz.isAgg21, Tryz.zeroValue21, (by kernel_rfl)⟩
end Go.Proofs.YtadipinnbehhhaaGreatDoor
namespace Go.Proofs.YtadipinnbehhhaaGreatDoor
open Go.RowKit Go.MuLone Go.Conc.Locks

/-- What a purse keeps. -/
structure PSt where
  limit : Int
  hand : Int
  parts : Int
  opn : Int
  closed : Bool
  peak : Int
def PSt.out (s : PSt) : Int := s.hand + s.parts
def PSt.free (s : PSt) : Int := s.limit - s.out
/-- Its numbers are in their ranges. -/
structure PSt.Ok (s : PSt) : Prop where
  h0 : 0 ≤ s.hand
  p0 : 0 ≤ s.parts
  le : s.hand + s.parts ≤ s.limit
  lim : s.limit ≤ 9223372036854775807
  o0 : 0 ≤ s.opn
  o1 : s.opn ≤ 9223372036854775806
  k0 : 0 ≤ s.peak
  k1 : s.peak ≤ s.limit
def PSt.cells (s : PSt) (lk : Nat) (of : Option Nat) : Array Value :=
  #[.pointer (some ⟨lk, 0, none⟩), .int .i64 s.limit, .int .i64 s.hand, .int .i64 s.parts, .int .i64 s.opn, .bool s.closed, .int .i64 s.peak, .pointer (of.map fun q => ⟨q, 0, none⟩)]
def LockAt (w : World) (lk : Nat) (n : Int) : Prop := Blk w lk 240 #[.int .i32 n, .int .u32 0]
def PBlk (w : World) (p lk : Nat) (of : Option Nat) (s : PSt) : Prop := Blk w p 222 (s.cells lk of)
set_option maxHeartbeats 400000 in
theorem out_any (p lk : Nat) (of : Option Nat) (s : PSt) (w : World) (hb : PBlk w p lk of s) (hs : s.Ok) :
    Calls Tryz.prog 132 #[.pointer (some ⟨p, 0, none⟩)] w fun e w' => e = .returned (.int .i64 (s.hand + s.parts)) ∧ Drawn w w' := by
  have c2 : w.cell? ⟨p, 2, none⟩ = some (.int .i64 s.hand) := hb.at_ 2
  have c3 : w.cell? ⟨p, 3, none⟩ = some (.int .i64 s.parts) := hb.at_ 3
  obtain ⟨h0, p0, le, lim, _, _, _, _⟩ := hs
  clear hb
  go_enter Tryz.func132, Tryz.ntmps132
  go_wp2
  go_quiet (fail)
  go_wp2
  go_ret
  exact ⟨rfl, ⟨⟨_, rfl⟩⟩⟩
/-- A contract of a call that only draws, as the quiet walk asks it. -/
theorem quiet_drawn {f : FuncId} {args : Array Value} {w : World} {n : Nat} {v : Value} (h : Calls Tryz.prog f args (w.drewN n) fun e w' => e = .returned v ∧ Drawn (w.drewN n) w') :
    Calls Tryz.prog f args (w.drewN n) fun e w'' => e = .returned v ∧ ∃ m, w'' = w.drewN m :=
  Calls.quiet_of (h.mono fun _ _ ⟨he, hd⟩ => ⟨he, hd.out⟩)
set_option maxHeartbeats 400000 in
theorem free_any (p lk : Nat) (of : Option Nat) (s : PSt) (w : World) (hb : PBlk w p lk of s) (hs : s.Ok) :
    Calls Tryz.prog 183 #[.pointer (some ⟨p, 0, none⟩)] w fun e w' => e = .returned (.int .i64 (s.limit - (s.hand + s.parts))) ∧ Drawn w w' := by
  have c1 : w.cell? ⟨p, 1, none⟩ = some (.int .i64 s.limit) := hb.at_ 1
  obtain ⟨h0, p0, le, lim, _, _, _, _⟩ := id hs
  have s0 : 0 ≤ s.hand + s.parts := by omega
  go_enter Tryz.func183, Tryz.ntmps183
  go_wp2
  go_quiet ((go_at_call 132; exact quiet_drawn (out_any p lk of s _ (Blk.drewN hb _) hs)))
  go_wp2
  go_ret
  exact ⟨rfl, ⟨⟨_, rfl⟩⟩⟩
/-- What is wrong with taking out n records. -/
def PSt.asked (s : PSt) (n : Int) : Int := if s.closed then 6 else if n < 0 then 1 else if s.limit - (s.hand + s.parts) < n then 2 else 0
set_option maxHeartbeats 400000 in
theorem asked_any (p lk : Nat) (of : Option Nat) (s : PSt) (n : Int) (w : World) (hb : PBlk w p lk of s) (hs : s.Ok) :
    Calls Tryz.prog 184 #[.pointer (some ⟨p, 0, none⟩), .int .i64 n] w fun e w' => e = .returned (.int .i64 (s.asked n)) ∧ Drawn w w' := by
  have c5 : w.cell? ⟨p, 5, none⟩ = some (.bool s.closed) := hb.at_ 5
  by_cases q : s.closed = true
  · rw [q] at c5
    go_enter Tryz.func184, Tryz.ntmps184
    go_wp2
    go_ret
    exact ⟨by simp [PSt.asked, q], Drawn.refl _⟩
  have q' : s.closed = false := by simpa using q
  rw [q'] at c5
  by_cases q1 : n < 0
  · go_enter Tryz.func184, Tryz.ntmps184
    go_wp2
    go_ret
    exact ⟨by simp [PSt.asked, q', q1], Drawn.refl _⟩
  by_cases q2 : s.limit - (s.hand + s.parts) < n
  · go_enter Tryz.func184, Tryz.ntmps184
    go_wp2_with (go_at_call 183; refine (free_any p lk of s _ hb hs).mono ?_; rintro e w' ⟨rfl, hd⟩)
    go_ret
    exact ⟨by simp [PSt.asked, q', q2]; omega, hd⟩
  · go_enter Tryz.func184, Tryz.ntmps184
    go_wp2_with (go_at_call 183; refine (free_any p lk of s _ hb hs).mono ?_; rintro e w' ⟨rfl, hd⟩)
    go_ret
    exact ⟨by simp [PSt.asked, q']; omega, hd⟩
/-- The peak behind what is out now. -/
def PSt.risen (s : PSt) : PSt := { s with peak := max s.peak (s.hand + s.parts) }
theorem load_law {a : Addr} {x : Int} {w : World} (hc : w.cell? a = some (.int .i64 x)) :
    (callFunc 173 #[.pointer (some a)]).run Tryz.prog w = .ok (.value (.int .i64 x)) w :=
  run_call_load (P := Tryz.prog) Tryz.func173 (by kernel_rfl) (by kernel_rfl) (by kernel_rfl) .i64 (by kernel_rfl) hc
theorem store_law {a : Addr} {y : Int} {u : Value} {w : World} (hc : w.cell? a = some u) (hz : w.frozen? a = false) :
    (callFunc 261 #[.pointer (some a), .int .i64 y]).run Tryz.prog w = .ok (.value (.tuple #[])) (w.setCell a (.int .i64 y)) :=
  run_call_store (P := Tryz.prog) Tryz.func261 (by kernel_rfl) (by kernel_rfl) (by kernel_rfl) (by kernel_rfl) hc hz
set_option maxHeartbeats 400000 in
theorem load_any (b o : Nat) (x : Int) (w : World) (hc : w.cell? ⟨b, o, none⟩ = some (.int .i64 x)) :
    Calls Tryz.prog 113 #[.pointer (some ⟨b, o, none⟩)] w fun e w' => e = .returned (.int .i64 x) ∧ w' = w := by
  have hl := load_law hc
  go_enter Tryz.func113, Tryz.ntmps113
  go_wp2
  go_ret
  exact ⟨rfl, rfl⟩
set_option maxHeartbeats 400000 in
theorem store_any (b o : Nat) (y : Int) (u : Value) (w : World) (hc : w.cell? ⟨b, o, none⟩ = some u) (hz : w.frozen? ⟨b, o, none⟩ = false) :
    Calls Tryz.prog 223 #[.pointer (some ⟨b, o, none⟩), .int .i64 y] w fun e w' => e = .returned (.tuple #[]) ∧ w' = w.setCell ⟨b, o, none⟩ (.int .i64 y) := by
  have hl := store_law (y := y) hc hz
  go_enter Tryz.func223, Tryz.ntmps223
  go_wp2
  go_end0
  exact ⟨rfl, rfl⟩
set_option maxHeartbeats 400000 in
theorem risen_any (p lk : Nat) (of : Option Nat) (s : PSt) (w : World) (hb : PBlk w p lk of s) (hs : s.Ok) :
    Calls Tryz.prog 185 #[.pointer (some ⟨p, 0, none⟩)] w fun e w' => e = .returned (.tuple #[]) ∧ ∃ n, w' = (w.drewN n).setCell ⟨p, 6, none⟩ (.int .i64 s.risen.peak) := by
  have c6 : w.cell? ⟨p, 6, none⟩ = some (.int .i64 s.peak) := hb.at_ 6
  have f6 : w.frozen? ⟨p, 6, none⟩ = false := hb.fr 6
  obtain ⟨h0, p0, le, lim, _, _, k0, k1⟩ := id hs
  have s0 : 0 ≤ s.hand + s.parts := by omega
  by_cases q : s.peak < s.hand + s.parts
  all_goals
    go_enter Tryz.func185, Tryz.ntmps185
    go_region_with (first
      | (go_at_call 113; refine (load_any p 6 s.peak _ (by exact c6)).mono ?_; rintro e w' ⟨rfl, rfl⟩)
      | (go_at_call 132; refine (out_any p lk of s _ (by exact hb) hs).mono ?_; rintro e wx ⟨rfl, hd⟩; obtain ⟨n, rfl⟩ := hd.out)
      | (go_at_call 223; refine (store_any p 6 _ _ _ (by exact c6) (by exact f6)).mono ?_; rintro e wx ⟨rfl, rfl⟩))
    go_wp2
    go_end0
  · refine ⟨rfl, 1 + n, ?_⟩
    rw [show s.risen.peak = s.hand + s.parts from by simp only [PSt.risen]; omega]
  · refine ⟨rfl, 1 + n, ?_⟩
    rw [show s.risen.peak = s.peak from by simp only [PSt.risen]; omega]
end Go.Proofs.YtadipinnbehhhaaGreatDoor
namespace Go.Proofs.YtadipinnbehhhaaGreatDoor
open Go.RowKit Go.MuLone Go.Conc.Locks

/-- A purse at rest: its block, and its lock, which is free. -/
structure PurseAt (w : World) (p lk : Nat) (of : Option Nat) (s : PSt) : Prop where
  blk : PBlk w p lk of s
  lock : LockAt w lk 0
  ok : s.Ok
/-- One block. -/
def One (a : Nat) : Nat → Prop := fun b => b = a
/-- The blocks of a purse. -/
def PF (p lk : Nat) : Nat → Prop := fun b => b = p ∨ b = lk
theorem One.pf {p lk : Nat} {w w' : World} (h : Keep (One lk) w w') : Keep (PF p lk) w w' := h.mono fun _ _ h => .inr h
theorem lock_any (lk : Nat) (w : World) (h : LockAt w lk 0) :
    Calls Tryz.prog 130 #[.pointer (some ⟨lk, 0, none⟩)] w fun e w' => e = .returned (.tuple #[]) ∧ LockAt w' lk 1 ∧ Keep (One lk) w w' :=
  (lock_free muLib ⟨lk, 0, none⟩ w (h.at_ 0) (h.fr 0)).mono fun _ _ ⟨he, hw⟩ => ⟨he, by subst hw; exact Blk.set_ h 0 _, by subst hw; exact (Keep.refl (One lk) w).setCell (p := ⟨lk, 0, none⟩) (fun _ => rfl) _⟩
theorem unlock_later (lk : Nat) (u : FrameMode) (w : World) (h : LockAt w lk 1) :
    CallsD Tryz.prog 131 #[.pointer (some ⟨lk, 0, none⟩)] u w fun e u' w' => u' = u ∧ e = .returned (.tuple #[]) ∧ LockAt w' lk 0 ∧ Keep (One lk) w w' :=
  (unlock_deferred muLib ⟨lk, 0, none⟩ u w (h.at_ 0) (h.fr 0)).mono fun _ _ _ ⟨hu, he, hw⟩ => ⟨hu, he, by subst hw; exact Blk.set_ h 0 _, by subst hw; exact (Keep.refl (One lk) w).setCell (p := ⟨lk, 0, none⟩) (fun _ => rfl) _⟩
theorem PurseAt.ne {w : World} {p lk : Nat} {of : Option Nat} {s : PSt} (h : PurseAt w p lk of s) : p ≠ lk := Blk.ne_ h.blk h.lock (by decide)
theorem PurseAt.keep {w w' : World} {p lk : Nat} {of : Option Nat} {s : PSt} {F : Nat → Prop} (h : PurseAt w p lk of s) (k : Keep F w w') (h1 : ¬ F p) (h2 : ¬ F lk) : PurseAt w' p lk of s :=
  ⟨Blk.keep h.blk k h1, Blk.keep h.lock k h2, h.ok⟩
/-- n more are out by hand. -/
def PSt.took (s : PSt) (n : Int) : PSt := PSt.risen { s with hand := s.hand + n }
def PSt.take (s : PSt) (n : Int) : PSt := if s.asked n = 0 then s.took n else s
/-- What is wrong with giving n back. -/
def PSt.gives (s : PSt) (n : Int) : Int := if s.closed then 6 else if n < 0 then 1 else if s.hand < n then 20 else 0
def PSt.give (s : PSt) (n : Int) : PSt := if s.gives n = 0 then { s with hand := s.hand - n } else s
theorem asked_zero {s : PSt} {n : Int} (h : s.asked n = 0) : s.closed = false ∧ 0 ≤ n ∧ n ≤ s.limit - (s.hand + s.parts) := by
  unfold PSt.asked at h
  split at h
  · omega
  · split at h
    · omega
    · split at h
      · omega
      · rename_i h1 h2 h3
        exact ⟨by simpa using h1, by omega, by omega⟩
theorem gives_zero {s : PSt} {n : Int} (h : s.gives n = 0) : s.closed = false ∧ 0 ≤ n ∧ n ≤ s.hand := by
  unfold PSt.gives at h
  split at h
  · omega
  · split at h
    · omega
    · split at h
      · omega
      · rename_i h1 h2 h3
        exact ⟨by simpa using h1, by omega, by omega⟩
theorem took_ok {s : PSt} {n : Int} (hs : s.Ok) (h : s.asked n = 0) : PSt.Ok { s with hand := s.hand + n } ∧ (s.took n).Ok := by
  obtain ⟨_, h2, h3⟩ := asked_zero h
  obtain ⟨i0, i1, i2, i3, i4, i5, i6, i7⟩ := hs
  constructor
  · constructor <;> simp only <;> omega
  · constructor <;> simp only [PSt.took, PSt.risen] <;> omega
theorem give_ok {s : PSt} {n : Int} (hs : s.Ok) : (s.give n).Ok := by
  unfold PSt.give
  split
  · rename_i h
    obtain ⟨_, h2, h3⟩ := gives_zero h
    obtain ⟨i0, i1, i2, i3, i4, i5, i6, i7⟩ := hs
    constructor <;> simp only <;> omega
  · exact hs
set_option maxHeartbeats 800000 in
theorem take_any (p lk : Nat) (of : Option Nat) (s : PSt) (n : Int) (w : World) (h : PurseAt w p lk of s) :
    Calls Tryz.prog 127 #[.pointer (some ⟨p, 0, none⟩), .int .i64 n] w fun e w' =>
      e = .returned (.int .i64 (s.asked n)) ∧ PurseAt w' p lk of (s.take n) ∧ Keep (PF p lk) w w' := by
  have hne := h.ne
  have hne' : lk ≠ p := Ne.symm hne
  obtain ⟨hb, hl, hs⟩ := h
  have c0 : w.cell? ⟨p, 0, none⟩ = some (.pointer (some ⟨lk, 0, none⟩)) := hb.at_ 0
  by_cases q : s.asked n = 0
  · have q' : (s.asked n != 0) = false := by simp [q]
    obtain ⟨hs1, hs2⟩ := took_ok hs q
    obtain ⟨q1, q2, q3⟩ := asked_zero q
    obtain ⟨i0, i1, i2, i3, i4, i5, i6, i7⟩ := id hs
    have HQ := Hid.intro_ q
    clear q q1
    go_enter_defers Tryz.func127, Tryz.ntmps127
    go_wp2_with (first
      | (go_at_call 130; refine (lock_any lk _ hl).mono ?_; rintro e w1 ⟨rfl, hl1, hk1⟩
         have hb1 : PBlk w1 p lk of s := Blk.keep hb hk1 hne
         have c01 : w1.cell? ⟨p, 0, none⟩ = some (.pointer (some ⟨lk, 0, none⟩)) := hb1.at_ 0
         have c21 : w1.cell? ⟨p, 2, none⟩ = some (.int .i64 s.hand) := hb1.at_ 2
         have f21 : w1.frozen? ⟨p, 2, none⟩ = false := hb1.fr 2)
      | (go_at_call 184; refine (asked_any p lk of s n _ hb1 hs).mono ?_; rintro e w2 ⟨rfl, hd⟩; obtain ⟨m, rfl⟩ := hd.out
         have hb3 : PBlk ((w1.drewN m).setCell ⟨p, 2, none⟩ (.int .i64 (s.hand + n))) p lk of { s with hand := s.hand + n } := Blk.set_ (Blk.drewN hb1 m) 2 _)
      | (go_at_call 185; refine (risen_any p lk of { s with hand := s.hand + n } _ (by exact hb3) hs1).mono ?_; rintro e w3 ⟨rfl, k, rfl⟩))
    refine leaves_cons (f := 131) (args := #[.pointer (some ⟨lk, 0, none⟩)]) (by simp) (by simp [go_sem]) ?_
    refine (unlock_later lk .returning _ ?_).mono ?_
    · exact Blk.far (Blk.drewN (Blk.far (Blk.drewN hl1 m) (by exact hne') _) k) (by exact hne') _
    rintro e u' w4 ⟨rfl, rfl, hl4, hk4⟩
    refine ⟨_, results_tmp rfl _ _ _, ?_, ⟨?_, hl4, ?_⟩, ?_⟩
    · rw [HQ.out]; rfl
    · rw [show s.take n = s.took n from if_pos HQ.out]
      exact Blk.keep (Blk.set_ (Blk.drewN hb3 k) 6 _) hk4 hne
    · rw [show s.take n = s.took n from if_pos HQ.out]; exact hs2
    · exact (((((One.pf hk1).drewN m).setCell (p := ⟨p, 2, none⟩) (fun _ => .inl rfl) _).drewN k).setCell (p := ⟨p, 6, none⟩) (fun _ => .inl rfl) _).then_ (One.pf hk4)
  · have q' : (s.asked n != 0) = true := by simp [q]
    have HQ := Hid.intro_ q
    clear q
    go_enter_defers Tryz.func127, Tryz.ntmps127
    go_wp2_with (first
      | (go_at_call 130; refine (lock_any lk _ hl).mono ?_; rintro e w1 ⟨rfl, hl1, hk1⟩
         have hb1 : PBlk w1 p lk of s := Blk.keep hb hk1 hne
         have c01 : w1.cell? ⟨p, 0, none⟩ = some (.pointer (some ⟨lk, 0, none⟩)) := hb1.at_ 0)
      | (go_at_call 184; refine (asked_any p lk of s n _ hb1 hs).mono ?_; rintro e w2 ⟨rfl, hd⟩; obtain ⟨m, rfl⟩ := hd.out))
    refine leaves_cons (f := 131) (args := #[.pointer (some ⟨lk, 0, none⟩)]) (by simp) (by simp [go_sem]) ?_
    refine (unlock_later lk .returning _ ?_).mono ?_
    · exact Blk.drewN hl1 m
    rintro e u' w4 ⟨rfl, rfl, hl4, hk4⟩
    refine ⟨_, results_tmp rfl _ _ _, rfl, ⟨?_, hl4, ?_⟩, ?_⟩
    · rw [show s.take n = s from if_neg HQ.out]
      exact Blk.keep (Blk.drewN hb1 m) hk4 hne
    · rw [show s.take n = s from if_neg HQ.out]; exact hs
    · exact ((One.pf hk1).drewN m).then_ (One.pf hk4)
set_option maxHeartbeats 800000 in
theorem give_any (p lk : Nat) (of : Option Nat) (s : PSt) (n : Int) (w : World) (h : PurseAt w p lk of s) :
    Calls Tryz.prog 129 #[.pointer (some ⟨p, 0, none⟩), .int .i64 n] w fun e w' =>
      e = .returned (.int .i64 (s.gives n)) ∧ PurseAt w' p lk of (s.give n) ∧ Keep (PF p lk) w w' := by
  have hne := h.ne
  have hne' : lk ≠ p := Ne.symm hne
  have hgo := give_ok (n := n) h.ok
  obtain ⟨hb, hl, hs⟩ := h
  have c0 : w.cell? ⟨p, 0, none⟩ = some (.pointer (some ⟨lk, 0, none⟩)) := hb.at_ 0
  obtain ⟨i0, i1, i2, i3, i4, i5, i6, i7⟩ := id hs
  by_cases q : s.gives n = 0
  · obtain ⟨q1, q2, q3⟩ := gives_zero q
    have HQ := Hid.intro_ q
    clear q
    go_enter_defers Tryz.func129, Tryz.ntmps129
    go_wp2_with (first
      | (go_at_call 130; refine (lock_any lk _ hl).mono ?_; rintro e w1 ⟨rfl, hl1, hk1⟩
         have hb1 : PBlk w1 p lk of s := Blk.keep hb hk1 hne
         have c01 : w1.cell? ⟨p, 0, none⟩ = some (.pointer (some ⟨lk, 0, none⟩)) := hb1.at_ 0
         have c51 : w1.cell? ⟨p, 5, none⟩ = some (.bool false) := by rw [← q1]; exact hb1.at_ 5
         have c21 : w1.cell? ⟨p, 2, none⟩ = some (.int .i64 s.hand) := hb1.at_ 2
         have f21 : w1.frozen? ⟨p, 2, none⟩ = false := hb1.fr 2
         have hb3 : PBlk (w1.setCell ⟨p, 2, none⟩ (.int .i64 (s.hand - n))) p lk of { s with hand := s.hand - n } := Blk.set_ hb1 2 _))
    refine leaves_cons (f := 131) (args := #[.pointer (some ⟨lk, 0, none⟩)]) (by simp) (by simp [go_sem]) ?_
    refine (unlock_later lk .returning _ ?_).mono ?_
    · exact Blk.far hl1 (by exact hne') _
    rintro e u' w4 ⟨rfl, rfl, hl4, hk4⟩
    refine ⟨_, results_tmp rfl _ _ _, ?_, ⟨?_, hl4, hgo⟩, ?_⟩
    · rw [HQ.out]; rfl
    · rw [show s.give n = { s with hand := s.hand - n } from if_pos HQ.out]
      exact Blk.keep hb3 hk4 hne
    · exact ((One.pf hk1).setCell (p := ⟨p, 2, none⟩) (fun _ => .inl rfl) _).then_ (One.pf hk4)
  · have hg : s.give n = s := if_neg q
    rw [hg]
    clear hg hgo
    have key : ∃ v : Int, s.gives n = v ∧ ((s.closed = true ∧ v = 6) ∨ (s.closed = false ∧ n < 0 ∧ v = 1) ∨ (s.closed = false ∧ 0 ≤ n ∧ s.hand < n ∧ v = 20)) := by
      refine ⟨_, rfl, ?_⟩
      unfold PSt.gives at q ⊢
      cases hc : s.closed <;> simp [hc] at q ⊢
      split at q <;> omega
    obtain ⟨v, hv, hcase⟩ := key
    rw [hv]
    clear q hv
    rcases hcase with ⟨q1, q2⟩ | ⟨q1, q2, q3⟩ | ⟨q1, q2, q3, q4⟩
    · subst q2
      go_enter_defers Tryz.func129, Tryz.ntmps129
      go_wp2_with (first
        | (go_at_call 130; refine (lock_any lk _ hl).mono ?_; rintro e w1 ⟨rfl, hl1, hk1⟩
           have hb1 : PBlk w1 p lk of s := Blk.keep hb hk1 hne
           have c01 : w1.cell? ⟨p, 0, none⟩ = some (.pointer (some ⟨lk, 0, none⟩)) := hb1.at_ 0
           have c51 : w1.cell? ⟨p, 5, none⟩ = some (.bool true) := by rw [← q1]; exact hb1.at_ 5))
      refine leaves_cons (f := 131) (args := #[.pointer (some ⟨lk, 0, none⟩)]) (by simp) (by simp [go_sem]) ?_
      refine (unlock_later lk .returning _ (by exact hl1)).mono ?_
      rintro e u' w4 ⟨rfl, rfl, hl4, hk4⟩
      exact ⟨_, results_tmp rfl _ _ _, rfl, ⟨Blk.keep hb1 hk4 hne, hl4, hs⟩, (One.pf hk1).then_ (One.pf hk4)⟩
    · subst q3
      go_enter_defers Tryz.func129, Tryz.ntmps129
      go_wp2_with (first
        | (go_at_call 130; refine (lock_any lk _ hl).mono ?_; rintro e w1 ⟨rfl, hl1, hk1⟩
           have hb1 : PBlk w1 p lk of s := Blk.keep hb hk1 hne
           have c01 : w1.cell? ⟨p, 0, none⟩ = some (.pointer (some ⟨lk, 0, none⟩)) := hb1.at_ 0
           have c51 : w1.cell? ⟨p, 5, none⟩ = some (.bool false) := by rw [← q1]; exact hb1.at_ 5))
      refine leaves_cons (f := 131) (args := #[.pointer (some ⟨lk, 0, none⟩)]) (by simp) (by simp [go_sem]) ?_
      refine (unlock_later lk .returning _ (by exact hl1)).mono ?_
      rintro e u' w4 ⟨rfl, rfl, hl4, hk4⟩
      exact ⟨_, results_tmp rfl _ _ _, rfl, ⟨Blk.keep hb1 hk4 hne, hl4, hs⟩, (One.pf hk1).then_ (One.pf hk4)⟩
    · subst q4
      go_enter_defers Tryz.func129, Tryz.ntmps129
      go_wp2_with (first
        | (go_at_call 130; refine (lock_any lk _ hl).mono ?_; rintro e w1 ⟨rfl, hl1, hk1⟩
           have hb1 : PBlk w1 p lk of s := Blk.keep hb hk1 hne
           have c01 : w1.cell? ⟨p, 0, none⟩ = some (.pointer (some ⟨lk, 0, none⟩)) := hb1.at_ 0
           have c21 : w1.cell? ⟨p, 2, none⟩ = some (.int .i64 s.hand) := hb1.at_ 2
           have c51 : w1.cell? ⟨p, 5, none⟩ = some (.bool false) := by rw [← q1]; exact hb1.at_ 5))
      refine leaves_cons (f := 131) (args := #[.pointer (some ⟨lk, 0, none⟩)]) (by simp) (by simp [go_sem]) ?_
      refine (unlock_later lk .returning _ (by exact hl1)).mono ?_
      rintro e u' w4 ⟨rfl, rfl, hl4, hk4⟩
      exact ⟨_, results_tmp rfl _ _ _, rfl, ⟨Blk.keep hb1 hk4 hne, hl4, hs⟩, (One.pf hk1).then_ (One.pf hk4)⟩
set_option maxHeartbeats 800000 in
theorem used_any (p lk : Nat) (of : Option Nat) (s : PSt) (w : World) (h : PurseAt w p lk of s) :
    Calls Tryz.prog 64 #[.pointer (some ⟨p, 0, none⟩)] w fun e w' =>
      e = .returned (.int .i64 (s.hand + s.parts)) ∧ PurseAt w' p lk of s ∧ Keep (PF p lk) w w' := by
  have hne := h.ne
  obtain ⟨hb, hl, hs⟩ := h
  have c0 : w.cell? ⟨p, 0, none⟩ = some (.pointer (some ⟨lk, 0, none⟩)) := hb.at_ 0
  go_enter_defers Tryz.func64, Tryz.ntmps64
  go_wp2_with (first
    | (go_at_call 130; refine (lock_any lk _ hl).mono ?_; rintro e w1 ⟨rfl, hl1, hk1⟩
       have hb1 : PBlk w1 p lk of s := Blk.keep hb hk1 hne
       have c01 : w1.cell? ⟨p, 0, none⟩ = some (.pointer (some ⟨lk, 0, none⟩)) := hb1.at_ 0)
    | (go_at_call 132; refine (out_any p lk of s _ hb1 hs).mono ?_; rintro e w2 ⟨rfl, hd⟩; obtain ⟨m, rfl⟩ := hd.out))
  refine leaves_cons (f := 131) (args := #[.pointer (some ⟨lk, 0, none⟩)]) (by simp) (by simp [go_sem]) ?_
  refine (unlock_later lk .returning _ (by exact hl1)).mono ?_
  rintro e u' w4 ⟨rfl, rfl, hl4, hk4⟩
  exact ⟨_, results_tmp rfl _ _ _, rfl, ⟨Blk.keep (Blk.drewN hb1 m) hk4 hne, hl4, hs⟩, ((One.pf hk1).drewN m).then_ (One.pf hk4)⟩
/-- What Free tells. -/
def PSt.frees (s : PSt) : Int := if s.closed then 0 else s.limit - (s.hand + s.parts)
set_option maxHeartbeats 800000 in
theorem frees_any (p lk : Nat) (of : Option Nat) (s : PSt) (w : World) (h : PurseAt w p lk of s) :
    Calls Tryz.prog 126 #[.pointer (some ⟨p, 0, none⟩)] w fun e w' =>
      e = .returned (.int .i64 s.frees) ∧ PurseAt w' p lk of s ∧ Keep (PF p lk) w w' := by
  have hne := h.ne
  obtain ⟨hb, hl, hs⟩ := h
  have c0 : w.cell? ⟨p, 0, none⟩ = some (.pointer (some ⟨lk, 0, none⟩)) := hb.at_ 0
  cases q : s.closed
  · have hf : s.frees = s.limit - (s.hand + s.parts) := by simp [PSt.frees, q]
    rw [hf]
    clear hf
    go_enter_defers Tryz.func126, Tryz.ntmps126
    go_wp2_with (first
      | (go_at_call 130; refine (lock_any lk _ hl).mono ?_; rintro e w1 ⟨rfl, hl1, hk1⟩
         have hb1 : PBlk w1 p lk of s := Blk.keep hb hk1 hne
         have c01 : w1.cell? ⟨p, 0, none⟩ = some (.pointer (some ⟨lk, 0, none⟩)) := hb1.at_ 0
         have c51 : w1.cell? ⟨p, 5, none⟩ = some (.bool false) := by rw [← q]; exact hb1.at_ 5)
      | (go_at_call 183; refine (free_any p lk of s _ hb1 hs).mono ?_; rintro e w2 ⟨rfl, hd⟩; obtain ⟨m, rfl⟩ := hd.out))
    refine leaves_cons (f := 131) (args := #[.pointer (some ⟨lk, 0, none⟩)]) (by simp) (by simp [go_sem]) ?_
    refine (unlock_later lk .returning _ (by exact hl1)).mono ?_
    rintro e u' w4 ⟨rfl, rfl, hl4, hk4⟩
    exact ⟨_, results_tmp rfl _ _ _, rfl, ⟨Blk.keep (Blk.drewN hb1 m) hk4 hne, hl4, hs⟩, ((One.pf hk1).drewN m).then_ (One.pf hk4)⟩
  · have hf : s.frees = 0 := by simp [PSt.frees, q]
    rw [hf]
    clear hf
    go_enter_defers Tryz.func126, Tryz.ntmps126
    go_wp2_with (first
      | (go_at_call 130; refine (lock_any lk _ hl).mono ?_; rintro e w1 ⟨rfl, hl1, hk1⟩
         have hb1 : PBlk w1 p lk of s := Blk.keep hb hk1 hne
         have c01 : w1.cell? ⟨p, 0, none⟩ = some (.pointer (some ⟨lk, 0, none⟩)) := hb1.at_ 0
         have c51 : w1.cell? ⟨p, 5, none⟩ = some (.bool true) := by rw [← q]; exact hb1.at_ 5))
    refine leaves_cons (f := 131) (args := #[.pointer (some ⟨lk, 0, none⟩)]) (by simp) (by simp [go_sem]) ?_
    refine (unlock_later lk .returning _ (by exact hl1)).mono ?_
    rintro e u' w4 ⟨rfl, rfl, hl4, hk4⟩
    exact ⟨_, results_tmp rfl _ _ _, rfl, ⟨Blk.keep hb1 hk4 hne, hl4, hs⟩, (One.pf hk1).then_ (One.pf hk4)⟩
/-- A new purse. -/
def PSt.new (limit : Int) : PSt := { limit := limit, hand := 0, parts := 0, opn := 0, closed := false, peak := 0 }
set_option maxHeartbeats 800000 in
theorem new_any (limit : Int) (w : World) (h0 : 0 ≤ limit) (h1 : limit ≤ 9223372036854775807) :
    Calls Tryz.prog 59 #[.int .i64 limit] w fun e w' => ∃ p lk, e = .returned (.tuple #[.pointer (some ⟨p, 0, none⟩), .int .i64 0]) ∧ PurseAt w' p lk none (PSt.new limit) ∧
      w.heap.size ≤ p ∧ w.heap.size ≤ lk ∧ Keep Nil w w' := by
  go_enter Tryz.func59, Tryz.ntmps59
  go_wp2
  go_ret2
  refine ⟨w.heap.size + 1, w.heap.size, rfl, ⟨Blk.new_at _ _ _ (by simp), (Blk.new_at w _ _ rfl).alloc _, ?_⟩, by omega, by omega, ((Keep.refl _ w).alloc _).alloc _⟩
  constructor <;> simp only [PSt.new] <;> omega
end Go.Proofs.YtadipinnbehhhaaGreatDoor
namespace Go.Proofs.YtadipinnbehhhaaGreatDoor
open Go.RowKit

/-- All blocks of a room: the disk's, the purse's, the desk's. -/
def RF (F : Nat → Prop) (p lk k : Nat) : Nat → Prop := fun b => F b ∨ PF p lk b ∨ b = k
/-- A desk over a disk and a purse. -/
structure DkAt (w : World) (F : Nat → Prop) (E : Nat → Addr) (d p lk k : Nat) (of : Option Nat) (D : DSt) (S : PSt) (K next : Int) : Prop where mk ::
  disk : ∃ R, DiskAt w F d D R
  purse : PurseAt w p lk of S
  desk : Blk w k 242 #[.pointer (some ⟨d, 0, none⟩), .pointer (some ⟨p, 0, none⟩), .int .i64 K, .int .i64 next]
  env : Env w (RF F p lk k) E
  np : ¬ F p
  nl : ¬ F lk
  nk : ¬ F k
section
variable {w w' : World} {F F' : Nat → Prop} {E : Nat → Addr} {d p lk k : Nat} {of : Option Nat} {D D' : DSt} {S S' : PSt} {K next : Int}

/-- The room turned: what it is now, and that nothing else turned. -/
def DkTo (w : World) (F : Nat → Prop) (E : Nat → Addr) (d p lk k : Nat) (of : Option Nat) (D' : DSt) (S' : PSt) (K next : Int) (w' : World) : Prop :=
  ∃ F', DkAt w' F' E d p lk k of D' S' K next ∧ Stp w (RF F p lk k) w' (RF F' p lk k)
theorem DkAt.kp (h : DkAt w F E d p lk k of D S K next) : k ≠ p := Blk.ne_ h.desk h.purse.blk (by decide)
theorem DkAt.kl (h : DkAt w F E d p lk k of D S K next) : k ≠ lk := Blk.ne_ h.desk h.purse.lock (by decide)
theorem DkAt.envd (h : DkAt w F E d p lk k of D S K next) : Env w F E := ⟨h.env.errs, fun i hi hf => h.env.nv i hi (.inl hf), fun i hi hf => h.env.nb i hi (.inl hf)⟩
theorem DkAt.nil (h : DkAt w F E d p lk k of D S K next) (q : Keep Nil w w') : DkAt w' F E d p lk k of D S K next := {
  disk := by obtain ⟨R, hd⟩ := h.disk; exact ⟨R, hd.nil q⟩
  purse := h.purse.keep q (fun h => h) (fun h => h)
  desk := h.desk.keep q (fun h => h)
  env := h.env.nil q
  np := h.np
  nl := h.nl
  nk := h.nk }
/-- Anything beside the room turned. -/
theorem DkAt.keep {G : Nat → Prop} (h : DkAt w F E d p lk k of D S K next) (q : Keep G w w') (hG : ∀ b, RF F p lk k b → ¬ G b) (hv : ∀ i, i < 9 → ¬ G (errVar i)) (hb : ∀ i, i < 9 → ¬ G (E i).block) : DkAt w' F E d p lk k of D S K next := {
  disk := by obtain ⟨R, hd⟩ := h.disk; exact ⟨R, hd.keep q (fun b hf => hG b (.inl hf))⟩
  purse := h.purse.keep q (hG _ (.inr (.inl (.inl rfl)))) (hG _ (.inr (.inl (.inr rfl))))
  desk := h.desk.keep q (hG _ (.inr (.inr rfl)))
  env := ⟨h.env.errs.keep q hv hb, h.env.nv, h.env.nb⟩
  np := h.np
  nl := h.nl
  nk := h.nk }
theorem DkAt.at_disk (h : DkAt w F E d p lk k of D S K next) (t : DiskTo d F D' w w') : DkTo w F E d p lk k of D' S K next w' := by
  obtain ⟨F', R', hd, hs⟩ := t
  have hnew : ∀ b, b < w.heap.size → ¬ F b → ¬ F' b := fun b hb hn hf => (hs.grow b hf).elim hn (fun h => by omega)
  have hlp := h.purse.blk.lt
  have hll := h.purse.lock.lt
  have hlk := h.desk.lt
  have hst : Stp w (RF F p lk k) w' (RF F' p lk k) := by
    refine ⟨hs.keep.mono (fun b _ hf => .inl hf), fun b hb => ?_⟩
    rcases hb with hf | hf
    · exact (hs.grow b hf).elim (fun h => .inl (.inl h)) .inr
    · exact .inl (.inr hf)
  exact ⟨F', ⟨⟨R', hd⟩, h.purse.keep hs.keep h.np h.nl, h.desk.keep hs.keep h.nk, h.env.step hst, hnew p hlp h.np, hnew lk hll h.nl, hnew k hlk h.nk⟩, hst⟩
theorem DkAt.at_purse (h : DkAt w F E d p lk k of D S K next) (t : PurseAt w' p lk of S') (q : Keep (PF p lk) w w') : DkTo w F E d p lk k of D S' K next w' := by
  have hst : Stp w (RF F p lk k) w' (RF F p lk k) := ⟨q.mono (fun b _ hf => .inr (.inl hf)), fun b hb => .inl hb⟩
  obtain ⟨R, hd⟩ := h.disk
  refine ⟨F, ⟨⟨R, hd.keep q ?_⟩, t, h.desk.keep q ?_, h.env.step hst, h.np, h.nl, h.nk⟩, hst⟩
  · rintro b hf (rfl | rfl)
    · exact h.np hf
    · exact h.nl hf
  · rintro (e | e)
    · exact h.kp e
    · exact h.kl e
theorem DkTo.then_ {w2 : World} {D2 : DSt} {S2 : PSt} (h : DkTo w F E d p lk k of D' S' K next w') (t : ∀ F', DkAt w' F' E d p lk k of D' S' K next → DkTo w' F' E d p lk k of D2 S2 K next w2) : DkTo w F E d p lk k of D2 S2 K next w2 := by
  obtain ⟨F1, h1, s1⟩ := h
  obtain ⟨F2, h2, s2⟩ := t F1 h1
  exact ⟨F2, h2, s1.trans s2⟩
theorem DkTo.refl (h : DkAt w F E d p lk k of D S K next) : DkTo w F E d p lk k of D S K next w := ⟨F, h, Stp.refl _ _⟩
theorem DkTo.nil {w2 : World} (h : DkTo w F E d p lk k of D' S' K next w') (q : Keep Nil w' w2) : DkTo w F E d p lk k of D' S' K next w2 := by
  obtain ⟨F1, h1, s1⟩ := h
  exact ⟨F1, h1.nil q, s1.then_nil q⟩
theorem DkTo.from_nil {w0 : World} (h : DkTo w F E d p lk k of D' S' K next w') (q : Keep Nil w0 w) : DkTo w0 F E d p lk k of D' S' K next w' := by
  obtain ⟨F1, h1, s1⟩ := h
  exact ⟨F1, h1, (Stp.of_nil q _).trans s1⟩
end

/-- May a file of that name be made? -/
def DSt.fresh (D : DSt) (s : ByteArray) : Int := if (D.length s).2.2 = 12 then 0 else if (D.length s).2.2 = 0 then 13 else (D.length s).2.2
end Go.Proofs.YtadipinnbehhhaaGreatDoor
