/- Parts of the proof: RowW RowsM. -/
import Derived.Test.YtadipinnbehhhaaGreatDoorCubesRowAQ
import Derived.Test.YtadipinnbehhhaaGreatDoorCubesRowAW
import Derived.Test.YtadipinnbehhhaaGreatDoorCubesRowAU
import Derived.Test.YtadipinnbehhhaaGreatDoorCubesRowAO
namespace Go.Proofs.YtadipinnbehhhaaGreatDoor
open Go.RowKit

structure FillI (N : Nat) (f : Nat → Nat) (q : Nat) (l : List Nat) : Prop where
  len : l.length = N
  at_ : ∀ j, j < N → l[j]? = some (if j < q then f j else 0)
theorem FillI.start (N : Nat) (f : Nat → Nat) : FillI N f 0 (List.replicate N 0) := ⟨by simp, fun j hj => by rw [if_neg (by omega), List.getElem?_replicate, if_pos hj]⟩
theorem FillI.put {N q : Nat} {f : Nat → Nat} {l : List Nat} {v : Nat} (h : FillI N f q l) (hq : q < N) (hv : v = f q) : FillI N f (q + 1) (l.set q v) := by
  refine ⟨by rw [List.length_set]; exact h.len, fun j hj => ?_⟩
  by_cases e : j = q
  · subst e
    rw [List.getElem?_set_self (by rw [h.len]; exact hj), if_pos (by omega), hv]
  · rw [List.getElem?_set_ne (fun e2 => e e2.symm), h.at_ j hj]
    by_cases hjq : j < q
    · rw [if_pos hjq, if_pos (by omega)]
    · rw [if_neg hjq, if_neg (by omega)]
theorem FillI.ends {N : Nat} {f : Nat → Nat} {l : List Nat} (h : FillI N f N l) : l = (List.range N).map f := by
  refine List.ext_getElem? (fun j => ?_)
  rw [List.getElem?_map]
  by_cases hj : j < N
  · rw [h.at_ j hj, List.getElem?_range hj, if_pos hj]
    rfl
  · rw [List.getElem?_eq_none (by rw [h.len]; omega), List.getElem?_eq_none (by rw [List.length_range]; omega)]
    rfl
theorem leaves_fin {bits : List Bool} {l : List Nat} (h : FillI bits.length (fun j => leafOf (bits.getD j false)) bits.length l) : l = bits.map leafOf := by
  rw [h.ends]
  refine List.ext_getElem? (fun j => ?_)
  rw [List.getElem?_map, List.getElem?_map]
  by_cases hj : j < bits.length
  · rw [List.getElem?_range hj, List.getElem?_eq_getElem hj]
    show some (leafOf (bits.getD j false)) = some _
    rw [List.getD_eq_getElem?_getD, List.getElem?_eq_getElem hj]
    rfl
  · rw [List.getElem?_eq_none (by rw [List.length_range]; omega), List.getElem?_eq_none (by omega)]
    rfl
def prN (j : Nat) (ptr : List Nat) (p : Nat) : P2 := (ptr.getD p 0, ptr.getD (p + 2 ^ j) 0)
theorem up_fin {lv j : Nat} {ptr l : List Nat} (h : FillI (2 ^ j) (fun p => upOf lv (levP j ptr) (prN j ptr p)) (2 ^ j) l) : l = upN lv j ptr := by
  rw [h.ends]
  unfold upN pairsN
  rw [List.map_map]
  rfl
def fltP (j : Nat) (ptr : List Nat) (p : Nat) : List P2 := ((pairsN j ptr).take p).filter fun x => !decide (x.1 = x.2)
theorem flt_take {j p : Nat} {ptr : List Nat} (hp : p < 2 ^ j) : (pairsN j ptr).take (p + 1) = (pairsN j ptr).take p ++ [prN j ptr p] := by
  rw [List.take_add_one, pairs_at hp]
  rfl
theorem flt_same {j p : Nat} {ptr : List Nat} (hp : p < 2 ^ j) (h : (prN j ptr p).1 = (prN j ptr p).2) : fltP j ptr (p + 1) = fltP j ptr p := by
  unfold fltP
  rw [flt_take hp, List.filter_append]
  simp [h]
theorem flt_more {j p : Nat} {ptr : List Nat} (hp : p < 2 ^ j) (h : ¬ (prN j ptr p).1 = (prN j ptr p).2) : fltP j ptr (p + 1) = fltP j ptr p ++ [prN j ptr p] := by
  unfold fltP
  rw [flt_take hp, List.filter_append]
  simp [h]
theorem flt_len (j : Nat) (ptr : List Nat) (p : Nat) : (fltP j ptr p).length ≤ 2 ^ j := by
  refine Nat.le_trans (List.length_filter_le _ _) ?_
  rw [List.length_take, pairs_len]
  omega
theorem flt_ends (j : Nat) (ptr : List Nat) : sortP (fltP j ptr (2 ^ j)) = levP j ptr := by
  unfold fltP levP
  rw [List.take_of_length_le (by rw [pairs_len]; exact Nat.le_refl _)]
theorem lev_rank {j p : Nat} {ptr : List Nat} (hp : p < 2 ^ j) (h : ¬ (prN j ptr p).1 = (prN j ptr p).2) : (levP j ptr)[(levP j ptr).idxOf (prN j ptr p)]? = some (prN j ptr p) := by
  have hm : prN j ptr p ∈ levP j ptr := lev_mem.2 ⟨⟨p, hp, rfl⟩, h⟩
  have hl := List.idxOf_lt_length_of_mem hm
  rw [List.getElem?_eq_getElem hl, List.getElem_idxOf hl]
theorem lev_rank_lt {j p : Nat} {ptr : List Nat} (hp : p < 2 ^ j) (h : ¬ (prN j ptr p).1 = (prN j ptr p).2) : (levP j ptr).idxOf (prN j ptr p) < 2 ^ j := by
  have hm : prN j ptr p ∈ levP j ptr := lev_mem.2 ⟨⟨p, hp, rfl⟩, h⟩
  exact Nat.lt_of_lt_of_le (List.idxOf_lt_length_of_mem hm) (lev_len j ptr)
theorem upOf_same {lv : Nat} {l : List P2} {x : P2} (h : x.1 = x.2) : x.1 = upOf lv l x := by unfold upOf; rw [if_pos h]
theorem upOf_more {lv : Nat} {l : List P2} {x : P2} (h : ¬ x.1 = x.2) : lv * 1099511627776 + l.idxOf x = upOf lv l x := by unfold upOf; rw [if_neg h]
theorem levN_take {lv i : Nat} {l : List P2} {x : P2} (h : l[i]? = some x) : (levN lv l).take (i + 1) = (levN lv l).take i ++ [⟨lv * 1099511627776 + i, x.1, x.2⟩] := by
  obtain ⟨hi, e⟩ := List.getElem?_eq_some_iff.1 h
  rw [List.take_add_one]
  unfold levN
  rw [List.getElem?_map, List.getElem?_range hi]
  simp only [Option.map_some, Option.toList, List.getD_eq_getElem?_getD, h, Option.getD_some]
theorem levN_cells {lv i sv : Nat} {l : List P2} {y : P2} (acc : List N3) (h : l[i]? = some y) (hsv : sv = lv * 1099511627776 + i) : rcCells ((acc ++ (levN lv l).take (i + 1)).map N3.rec4) = rcCells ((acc ++ (levN lv l).take i).map N3.rec4) ++ [.int .u64 (sv : Int), .int .u64 (y.1 : Int), .int .u64 (y.2 : Int), .int .u64 0] := by
  subst hsv
  rw [levN_take h, ← List.append_assoc, List.map_append (l₂ := [_]), rcCells_app']
  rfl
theorem levN_all (lv : Nat) (l : List P2) : (levN lv l).take l.length = levN lv l := List.take_of_length_le (by rw [levN_len]; exact Nat.le_refl _)
def PtrLt (l : List Nat) : Prop := ∀ x ∈ l, x < 18446744073709551616
theorem PtrLt.at_ {l : List Nat} (h : PtrLt l) (p : Nat) : l.getD p 0 < 18446744073709551616 := by
  rw [List.getD_eq_getElem?_getD]
  cases hx : l[p]? with
  | none => simp
  | some x => exact h x (List.mem_of_getElem? hx)
theorem leaves_lt (bits : List Bool) : PtrLt (bits.map leafOf) := fun x hx => by
  obtain ⟨b, _, rfl⟩ := List.mem_map.1 hx
  cases b <;> decide
theorem up_lt {lv j : Nat} {ptr : List Nat} (h : PtrLt ptr) (hl : lv < 65536) (hj : j ≤ 16) : PtrLt (upN lv j ptr) := fun x hx => by
  unfold upN pairsN at hx
  rw [List.map_map] at hx
  obtain ⟨p, hp, rfl⟩ := List.mem_map.1 hx
  have hp := List.mem_range.1 hp
  show upOf lv (levP j ptr) (prN j ptr p) < _
  by_cases e : (prN j ptr p).1 = (prN j ptr p).2
  · rw [← upOf_same e]
    exact h.at_ p
  · rw [← upOf_more e]
    have := lev_rank_lt hp e
    have h2 := pow_small hj
    omega
theorem or_pow {j p : Nat} (h : p < 2 ^ j) : p ||| 2 ^ j = p + 2 ^ j := by
  rw [Nat.or_comm, Nat.add_comm]
  have := Nat.two_pow_add_eq_or_of_lt h 1
  rw [Nat.mul_one] at this
  exact this.symm
theorem or_ptr (lv i : Nat) (h : i < 1099511627776) : lv * 1099511627776 ||| i = lv * 1099511627776 + i := by
  have := Nat.two_pow_add_eq_or_of_lt (i := 40) (b := i) h lv
  rw [Nat.mul_comm lv]
  exact this.symm
theorem u64_or_nat (a b : Nat) (ha : a < 18446744073709551616) (hb : b < 18446744073709551616) : bits .or .u64 (a : Int) (b : Int) = ((a ||| b : Nat) : Int) := by
  have hx : a ||| b < 2 ^ 64 := Nat.or_lt_two_pow ha hb
  show IntKind.u64.wrap ((BitVec.ofInt 64 (a : Int) ||| BitVec.ofInt 64 (b : Int)).toNat : Int) = _
  rw [BitVec.toNat_or, ofInt_u64 a ha, ofInt_u64 b hb]
  exact IntWalk.u64_in _ (by omega)
def u64s (l : List Nat) : List Value := l.map fun x : Nat => Value.int .u64 (x : Int)
theorem u64s_at {l : List Nat} {i x : Nat} (h : l[i]? = some x) : (u64s l)[i]? = some (.int .u64 (x : Int)) := by
  unfold u64s
  rw [List.getElem?_map, h]
  rfl
theorem u64s_set (l : List Nat) (i x : Nat) : (u64s l).set i (.int .u64 (x : Int)) = u64s (l.set i x) := by
  unfold u64s
  rw [List.map_set]
theorem made_u64 (n : Nat) : (madeCells (Value.int .u64 0).cells (n * 1)).toList = u64s (List.replicate n 0) := by
  rw [Nat.mul_one]
  unfold u64s
  rw [List.map_replicate]
  exact toList_madeCells_one _ _
def OfTy (w : World) (t : TypeId) (z : Nat) : Prop := ∃ cs, Blk w z t cs
theorem keep_typed {w w1 w2 : World} {base size n : Nat} {t : TypeId} {v : Value} {xs : List Value} (k : Keep (OfTy w t) w w1) (h : w1.ownsRow base t size v n xs) (k2 : Keep (fun b => v.ownBlock = some b) w1 w2) : Keep (OfTy w t) w w2 := k.trans k2 (fun z hz e => by
  obtain ⟨cs, hb⟩ := own_blk h e
  refine Classical.byContradiction fun hn => hn ?_
  have := k.same z hz hn
  refine ⟨cs, ?_⟩
  unfold Blk at hb ⊢
  rw [← this]
  exact hb)
theorem Blk.not_ty {w : World} {g : Nat} {t t' : TypeId} {cs : Array Value} (h : Blk w g t cs) (hne : ¬ t = t') : ¬ OfTy w t' g := fun ⟨cs', h'⟩ => by
  unfold Blk at h h'
  rw [h] at h'
  injection h' with h'
  injection h' with _ h'
  exact hne h'
theorem TyAt.not_ty {w : World} {A : Option Addr} {t t' : TypeId} (h : TyAt w A t) (hne : ¬ t = t') : ∀ a, A = some a → ¬ OfTy w t' a.block := fun a e => by
  obtain ⟨cs, hb⟩ := h a e
  exact hb.not_ty hne
theorem row_set {w : World} {g : Nat} {t : TypeId} {l : List Nat} (h : RowV w g t (u64s l)) (q x : Nat) : RowV (w.setCell ⟨g, q, none⟩ (.int .u64 (x : Int))) g t (u64s (l.set q x)) := by
  rw [← u64s_set]
  exact RowV.set h q _
structure RwO (s : FnN) (L : Nat) (WL wz : World) (jj g n7 c7 : Nat) (ptr : List Nat) (acc : List N3) (C7 : Option Addr) : Prop where mk ::
  len : ptr.length = 2 ^ jj
  lt : PtrLt ptr
  row : RowV wz g 43 (u64s ptr)
  own : wz.ownsRow WL.heap.size 111 4 (.slice C7 n7 c7) n7 (rcCells (acc.map N3.rec4))
  n : n7 = acc.length
  cap : acc.length + 2 ^ jj ≤ 131072
  go : rowsA s.at_ jj ptr acc = rowsA s.at_ L (s.bits.map leafOf) []
  keep : Keep Nil WL wz
theorem getD_at {l : List Nat} {p : Nat} (h : p < l.length) : l[p]? = some (l.getD p 0) := by
  rw [List.getD_eq_getElem?_getD, List.getElem?_eq_getElem h]
  rfl
theorem prN_eq {j p pw z : Nat} {ptr : List Nat} (hpw : pw = 2 ^ j) (hz : z = p + pw) : prN j ptr p = (ptr.getD p 0, ptr.getD z 0) := by
  unfold prN
  rw [hz, hpw]
theorem self_or {lv i : Nat} (h1 : lv < 65536) (h2 : i < 1099511627776) : bits .or .u64 ((lv : Int) * 1099511627776) (i : Int) = ((lv * 1099511627776 + i : Nat) : Int) := by
  have e : ((lv : Int) * 1099511627776) = ((lv * 1099511627776 : Nat) : Int) := by omega
  rw [e, u64_or_nat _ _ (by omega) (by omega), or_ptr lv i h2]
theorem rows_step (at_ : List Nat) (j : Nat) (ptr : List Nat) (acc : List N3) : rowsA at_ (j + 1) ptr acc = rowsA at_ j (upN (at_.getD j 0) j ptr) (acc ++ levN (at_.getD j 0) (levP j ptr)) := rfl
theorem RwO.next {s : FnN} {L : Nat} {WL wz wz2 : World} {j g g9 n7 c7 n8 c8 lv : Nat} {ptr : List Nat} {acc : List N3} {C7 C8 : Option Addr} (h : RwO s L WL wz (j + 1) g n7 c7 ptr acc C7) (hlv : s.at_[j]? = some lv) (h1 : lv < 65536) (hj : j ≤ 16)
    (hr : RowV wz2 g9 43 (u64s (upN lv j ptr))) (ho : wz2.ownsRow WL.heap.size 111 4 (.slice C8 n8 c8) n8 (rcCells ((acc ++ levN lv (levP j ptr)).map N3.rec4))) (hn : n8 = (acc ++ levN lv (levP j ptr)).length) (k : Keep Nil WL wz2) :
    RwO s L WL wz2 j g9 n8 c8 (upN lv j ptr) (acc ++ levN lv (levP j ptr)) C8 := by
  have hd : s.at_.getD j 0 = lv := by rw [List.getD_eq_getElem?_getD, hlv]; rfl
  refine ⟨by rw [up_len], up_lt h.lt h1 hj, hr, ho, hn, ?_, ?_, k⟩
  · have h2 := h.cap
    have h3 := lev_len j ptr
    rw [List.length_append, levN_len]
    rw [Nat.pow_succ] at h2
    omega
  · rw [← h.go, rows_step, hd]
end Go.Proofs.YtadipinnbehhhaaGreatDoor
namespace Go.Proofs.YtadipinnbehhhaaGreatDoor
open Go.RowKit

theorem info_u64 : (Tryz.prog.info? 43).map (fun i => (i.zero, i.size, i.bytes)) = some (some (.int .u64 0), 1, 8) := by kernel_rfl
structure RwPost (w : World) (f : FnN) (e : Ending) (w' : World) : Prop where mk ::
  out : ∃ Au cu, e = .returned (.slice Au ((rowsN f).P.length + 1) cu) ∧ Rd w' Au (rcCells (recsD (rowsN f))) ∧ Spotless Au ∧ (rowsN f).P.length + 1 ≤ cu ∧ Keep Nil w w'
set_option maxRecDepth 100000 in
set_option maxHeartbeats 16000000 in
theorem rows_any (f : FnN) (ok : FnOk f) (hv : f.n ≤ 65536) (A : Option Addr) (ca : Nat) (B : Option Addr) (cb : Nat) (w : World) (h : FnAt w f A B) :
    Calls Tryz.prog 174 #[fnV f A ca B cb] w (RwPost w f) := by
  have HSL := Hid.intro_ (fun W (k : Keep Nil w W) => slim_any f ok A ca B cb W (h.nil k))
  obtain ⟨n, hn⟩ : ∃ n, n = f.n := ⟨_, rfl⟩
  obtain ⟨N0, hN⟩ : ∃ N, N = f.at_.length := ⟨_, rfl⟩
  obtain ⟨M0, hM⟩ : ∃ M, M = f.bits.length := ⟨_, rfl⟩
  obtain ⟨W0, hW0⟩ : ∃ W0, W0 = w.alloc (.cells #[.int .i64 n, .slice A N0 ca, .slice B M0 cb] 226) := ⟨_, rfl⟩
  have HK0 := Hid.intro_ (show Keep Nil w W0 by rw [hW0]; exact (Keep.refl Nil w).alloc _)
  have hb0 : Blk W0 w.heap.size 226 #[.int .i64 n, .slice A N0 ca, .slice B M0 cb] := by rw [hW0]; exact Blk.new w _ _
  have c0 : W0.cell? ⟨w.heap.size, 0, none⟩ = some (.int .i64 n) := hb0.at_ 0
  have c1 : W0.cell? ⟨w.heap.size, 1, none⟩ = some (.slice A N0 ca) := hb0.at_ 1
  have c2 : W0.cell? ⟨w.heap.size, 2, none⟩ = some (.slice B M0 cb) := hb0.at_ 2
  have HB0 := Hid.intro_ hb0
  have HNN := Hid.intro_ hn
  have HSO := Hid.intro_ (slim_ok ok)
  obtain ⟨s, hs⟩ : ∃ s, s = slimN f := ⟨_, rfl⟩
  have HSN := Hid.intro_ (show s.n = f.n by rw [hs]; rfl)
  have HSS := Hid.intro_ hs
  unfold fnV at HSL
  unfold fnV
  rw [← hn, ← hN, ← hM] at HSL
  rw [← hn, ← hN, ← hM]
  have hn16 : n ≤ 65536 := by omega
  clear h hb0 hn hN hM ok hv
  go_enter Tryz.func174, Tryz.ntmps174
  go_upto_region 1 with (fail)
  rw [← hW0]
  clear hW0
  go_wp2_with fail
  refine (HSL.out _ HK0.out).mono ?_
  rintro e w2 ⟨⟨C, cc, D, cd, rfl, hfa, k2⟩⟩
  rw [← hs] at HSO hfa ⊢
  obtain ⟨L, hL⟩ : ∃ L, L = s.at_.length := ⟨_, rfl⟩
  obtain ⟨N, hN⟩ : ∃ N, N = s.bits.length := ⟨_, rfl⟩
  obtain ⟨sn, hsn⟩ : ∃ x, x = s.n := ⟨_, rfl⟩
  unfold fnV
  rw [← hL, ← hN, ← hsn]
  have hL16 : L ≤ 16 := by rw [hL]; exact HSO.out.le
  have hN16 : N ≤ 65536 := by rw [hN, HSO.out.len]; exact pow_small HSO.out.le
  obtain ⟨W1, hW1⟩ : ∃ W1, W1 = w2.alloc (.cells #[.int .i64 sn, .slice C L cc, .slice D N cd] 226) := ⟨_, rfl⟩
  have k1 : Keep Nil w2 W1 := by rw [hW1]; exact (Keep.refl Nil w2).alloc _
  have hb1 : Blk W1 w2.heap.size 226 #[.int .i64 sn, .slice C L cc, .slice D N cd] := by rw [hW1]; exact Blk.new w2 _ _
  have hFA := hfa.nil k1
  have HDB := Hid.intro_ (show ∀ b, s.bits[0]? = some b → ∀ a, D = some a → a.block < w2.heap.size from fun b hb a e => by
    obtain ⟨g, o, e2, p0⟩ := bool_at hfa.lb hb hfa.sb
    subst e
    injection e2 with e2
    subst e2
    exact cell_lt p0)
  have HFA := Hid.intro_ hFA
  have HB1 := Hid.intro_ hb1
  have HK1 := Hid.intro_ ((HK0.out.then_ k2).then_ k1)
  have HB01 := Hid.intro_ (HB0.out.keep (k2.then_ k1) (fun h => h))
  have e1 : W1.cell? ⟨w2.heap.size, 1, none⟩ = some (.slice C L cc) := hb1.at_ 1
  have e2 : W1.cell? ⟨w2.heap.size, 2, none⟩ = some (.slice D N cd) := hb1.at_ 2
  have HL := Hid.intro_ hL
  have HN := Hid.intro_ hN
  have HSNN := Hid.intro_ hsn
  obtain ⟨T3, hT3⟩ : ∃ T, T = w2.heap.size := ⟨_, rfl⟩
  rw [← hT3] at hb1 HB1 HDB e1 e2
  have HT3 := Hid.intro_ hT3
  have hT3W : T3 < W1.heap.size := hb1.lt
  obtain ⟨iu, hiu, hy0, hy1, hy2⟩ := info_parts info_u64
  obtain ⟨ip, hip, hz0, hz1, hz2⟩ := info_parts info_pair
  obtain ⟨i1, hi1, hx0, hx1, hx2⟩ := info_parts info_rec
  clear k1 hb1 hFA hfa k2 c0 c1 c2 hL hN hsn HSL
  go_upto_region 2 with (fail)
  rw [← hT3, ← hW1]
  clear hW1 hT3
  go_wp2_with (at_make; refine wpList_make_full _ rfl _ _ 328 rfl W1.heap.size 43 iu (.int .u64 0) 1 Tryz.underlying328 hiu hy0 hy1 .i64 .i64 _ _ N rfl rfl (by simp) (by simp) (by rw [hy2]; omega) (by unfold maxLen; omega) (Nat.le_refl _) ?_; intro w3 ho3 g3
               have k3 := Keep.of_grown_none g3
               rw [made_u64] at ho3
               have HR3 := Hid.intro_ (own_full (g := W1.heap.size) ho3 (by simp [u64s]))
               have HK3 := Hid.intro_ k3
               clear ho3 g3 k3)
  obtain ⟨g5, hg5⟩ : ∃ g, g = W1.heap.size := ⟨_, rfl⟩
  rw [← hg5] at HR3 hT3W ⊢
  have HB3 := Hid.intro_ (HB1.out.keep HK3.out (fun h => h))
  have HG5 := Hid.intro_ hg5
  have hne : ¬ T3 = g5 := by omega
  clear e1 e2 hg5
  go_loopw [6] (fun i wz => ∃ (q : Nat) (bl : List Nat), q ≤ N ∧ i = .int .i64 q ∧ Hid (RowV wz g5 43 (u64s bl)) ∧ Hid (FillI N (fun j => leafOf (s.bits.getD j false)) q bl) ∧ Hid (Keep (fun z => z = g5) w3 wz)) (fun i _ => N - (intOf i).toNat)
  case atStart => exact ⟨0, _, Nat.zero_le _, rfl, HR3, Hid.intro_ (FillI.start _ _), Hid.intro_ (Keep.refl _ _)⟩
  case round =>
    obtain ⟨q, bl, hqm, rfl, HRZ, HBL, HKZ⟩ := hrel
    by_cases hlq : q < N
    · have hb5 := HB3.out.keep HKZ.out hne
      have e2 : wr.cell? ⟨T3, 2, none⟩ = some (.slice D N cd) := hb5.at_ 2
      obtain ⟨bk, hbk⟩ : ∃ bk, s.bits[q]? = some bk := ⟨_, List.getElem?_eq_getElem (by have := HN.out; omega)⟩
      have hkk : Keep Nil W1 wr := HK3.out.trans HKZ.out (fun z hz e => by have e : z = g5 := e; have := HG5.out; omega)
      obtain ⟨gb, ob, hBe, p0⟩ := bool_at (HFA.out.nil hkk).lb hbk HFA.out.sb
      subst hBe
      have hgb : gb < T3 := by
        obtain ⟨b0, hb0⟩ : ∃ b0, s.bits[0]? = some b0 := ⟨_, List.getElem?_eq_getElem (by have := HN.out; omega)⟩
        exact HDB.out b0 hb0 _ rfl
      have hgn : ¬ gb = g5 := by omega
      have hgn2 : ¬ g5 = gb := by omega
      have hne2 : ¬ g5 = T3 := by omega
      obtain ⟨x0, hx⟩ : ∃ x0, bl[q]? = some x0 := ⟨_, List.getElem?_eq_getElem (by have := HBL.out.len; omega)⟩
      have q0 : wr.cell? ⟨g5, q, none⟩ = some (.int .u64 (x0 : Int)) := HRZ.out.at_ (u64s_at hx)
      have qf := HRZ.out.fr q
      have hqi : (q : Int) < (N : Int) := by omega
      have hq0 : (0 : Int) ≤ (q : Int) := by omega
      have HVAL := Hid.intro_ (show s.bits.getD q false = bk by rw [List.getD_eq_getElem?_getD, hbk]; rfl)
      clear hb5 hbk hkk hx hgb
      have HFI1 := Hid.intro_ (show ∀ v : Nat, v = leafOf bk → FillI N (fun j => leafOf (s.bits.getD j false)) (q + 1) (bl.set q v) from fun v hv => HBL.out.put hlq (by rw [hv, HVAL.out]))
      have HKS := Hid.intro_ HKZ.out
      rcases Bool.eq_false_or_eq_true bk with hb | hb
      · subst hb
        go_wp2_with fail
        go_roundw
        case rel => exact ⟨q + 1, (bl.set q FA).set q TR, by omega, by go_num, Hid.intro_ (row_set (row_set HRZ.out q FA) q TR), Hid.intro_ (by rw [List.set_set]; exact HFI1.out TR rfl), Hid.intro_ ((HKZ.out.setCell (p := ⟨g5, q, none⟩) (fun _ => rfl) _).setCell (p := ⟨g5, q, none⟩) (fun _ => rfl) _)⟩
        case measure => simp [intOf]; omega
      · subst hb
        go_wp2_with fail
        go_roundw
        case rel => exact ⟨q + 1, bl.set q FA, by omega, by go_num, Hid.intro_ (row_set HRZ.out q FA), Hid.intro_ (HFI1.out FA rfl), Hid.intro_ (HKZ.out.setCell (p := ⟨g5, q, none⟩) (fun _ => rfl) _)⟩
        case measure => simp [intOf]; omega
    · obtain rfl : q = N := by omega
      obtain ⟨WL, rfl⟩ : ∃ x : World, x = wr := ⟨_, rfl⟩
      have hq1 : FillI s.bits.length (fun j => leafOf (s.bits.getD j false)) s.bits.length bl := by rw [← HN.out]; exact HBL.out
      have hbl := leaves_fin hq1
      have HBX := Hid.intro_ (HB3.out.keep HKZ.out hne)
      have hkk : Keep Nil W1 WL := HK3.out.trans HKZ.out (fun z hz e => by have e : z = g5 := e; have := HG5.out; omega)
      have HKL := Hid.intro_ hkk
      have HPW := Hid.intro_ (show q = 2 ^ L by rw [HN.out, HL.out]; exact HSO.out.len)
      obtain ⟨zL, hzL⟩ : ∃ z : Int, z = (L : Int) - 1 := ⟨_, rfl⟩
      have hw1 : wrap64 ((L : Int) - 1) = zL := by rw [hzL]; unfold wrap64; omega
      have hw2 : IntKind.i64.wrap ((L : Int) - 1) = zL := by rw [hzL, IntKind.wrap_i64]; omega
      have HZL := Hid.intro_ (show zL + 1 = (L : Int) by omega)
      have HOI := Hid.intro_ (show RwO s L WL WL L g5 0 0 bl [] none from ⟨by rw [HBL.out.len]; exact HPW.out, by rw [hbl]; exact leaves_lt _, HRZ.out, World.ownsRow_nil _ _ _ _, rfl, by rw [List.length_nil, ← HPW.out]; omega, by rw [hbl], Keep.refl _ _⟩)
      clear hq1 hbl hkk hzL HRZ HBL HKZ HR3 HK3 HB3 hne hqm hlq
      go_wp2_with fail
      go_loopw [5, 7, 8] (fun v5 v7 v8 wz => ∃ (jj g P7 n7 c7 : Nat) (ptr : List Nat) (acc : List N3) (C7 : Option Addr) (z : Int), v5 = .slice (some ⟨g, 0, none⟩) P7 P7 ∧ v7 = .slice C7 n7 c7 ∧ v8 = .int .i64 z ∧ jj ≤ L ∧ Hid (z + 1 = (jj : Int)) ∧ Hid (P7 = 2 ^ jj) ∧ Hid (RwO s L WL wz jj g n7 c7 ptr acc C7)) (fun _ _ i _ => (intOf i + 1).toNat)
      case atStart => exact ⟨L, g5, q, 0, 0, bl, [], none, zL, rfl, rfl, rfl, Nat.le_refl _, HZL, HPW, HOI⟩
      case round =>
        obtain ⟨jj, g, P7, n7, c7, ptr, acc, C7, z, rfl, rfl, rfl, hjL, HZZ, HP7, HRO⟩ := hrel
        obtain ⟨wo, rfl⟩ : ∃ x : World, x = wr := ⟨_, rfl⟩
        clear hw1 hw2
        rcases Nat.eq_zero_or_pos jj with hj0 | hj0
        · subst hj0
          obtain rfl : z = -1 := by have := HZZ.out; omega
          obtain rfl : P7 = 1 := HP7.out
          obtain ⟨r, hr⟩ : ∃ r, r = ptr.getD 0 0 := ⟨_, rfl⟩
          have x0 : wo.cell? ⟨g, 0, none⟩ = some (.int .u64 (r : Int)) := by rw [hr]; exact HRO.out.row.at_ (u64s_at (getD_at (by rw [HRO.out.len]; decide)))
          have c0 : wo.cell? ⟨w.heap.size, 0, none⟩ = some (.int .i64 (n : Int)) := (HB01.out.keep (HKL.out.then_ HRO.out.keep) (fun h => h)).at_ 0
          have hN131 : n7 ≤ 131072 := by rw [HRO.out.n]; exact Nat.le_trans (Nat.le_add_right _ _) HRO.out.cap
          have hwn : IntKind.u64.wrap (n : Int) = (n : Int) := IntWalk.u64_in _ (by omega)
          have hwn7 : IntKind.u64.wrap (n7 : Int) = (n7 : Int) := IntWalk.u64_in _ (by omega)
          have HDG := Hid.intro_ (show rowsN f = ⟨n, r, n7, acc⟩ by
            unfold rowsN rowsS
            rw [← HSS.out, ← HL.out, ← HRO.out.go]
            show (⟨s.n, ptr.getD 0 0, acc.length, acc⟩ : Dg) = _
            rw [HSN.out, ← HNN.out, ← hr, ← HRO.out.n])
          have kq : Keep Nil wo wo.drew := (Keep.refl Nil wo).drew
          have HOE := Hid.intro_ (own_keep HRO.out.own kq (fun _ _ h => h))
          have HKQ := Hid.intro_ (HRO.out.keep.then_ kq)
          have HNA := Hid.intro_ (show n7 = acc.length from HRO.out.n)
          clear hr kq
          go_wp2_with fail
          go_region_law (refine step_append_own rfl (.tmp 162) (.tmp 172) 47 rfl WL.heap.size 111 i1 (.agg #[.int .u64 0, .int .u64 0, .int .u64 0, .int .u64 0]) 4 32 Tryz.underlying47 hi1 hx0 hx1 hx2 rfl (by decide) (.slice C7 n7 c7) n7 (rcCells (acc.map N3.rec4)) (by simp [Act.eval]) (own_keep HOE.out ((Keep.refl Nil _).alloc _) (fun g _ h => h)) ⟨wo.heap.size, 0, none⟩ 1 1 [.int .u64 18446744073709551615, .int .u64 (n : Int), .int .u64 (r : Int), .int .u64 (n7 : Int)] (by simp [Act.eval]) rfl (news_new (w := wo.drew) rfl) (by simp [Value.oneCell']) (by unfold maxLen; omega) (by omega) (by have := HKQ.out.size; simp at this ⊢; omega) ?_; intro C5 c5 w8 ho8 hg8 hs8)
          all_goals
            have k8 : Keep Nil WL w8 := keep_own (HKQ.out.alloc _) (own_keep HOE.out ((Keep.refl Nil _).alloc _) (fun g _ h => h)) (Nat.le_refl _) hg8
            have ho8 := ho8.out
            have hfin : Hid (RwPost w f (.returned (.slice C5 (n7 + 1) c5)) w8) := Hid.intro_ (by
              refine ⟨⟨C5, c5, ?_, ?_, (own_le ho8).2, ?_, (HK1.out.then_ HKL.out).then_ k8⟩⟩
              · rw [HDG.out]
                show _ = Ending.returned (.slice C5 (acc.length + 1) c5)
                rw [← HNA.out]
              · rw [HDG.out]
                show Rd w8 C5 (rcCells (acc.map N3.rec4 ++ [⟨18446744073709551615, n, r, n7⟩]))
                rw [rcCells_snoc]
                exact own_rd ho8
              · rw [HDG.out]
                show acc.length + 1 ≤ c5
                rw [← HNA.out]
                exact (own_le ho8).1)
            clear ho8 hg8 hs8 k8
            go_wp2_with fail
            refine bodyPost_ret (v := .slice C5 (n7 + 1) c5) (by simp [results, Tryz.results174, go_sem]) rfl hfin.out
        · obtain ⟨j, rfl⟩ : ∃ j, jj = j + 1 := ⟨jj - 1, by omega⟩
          obtain rfl : z = (j : Int) := by have := HZZ.out; omega
          have hj16 : j ≤ 16 := by omega
          obtain ⟨pw, hpw⟩ : ∃ pw, pw = 2 ^ j := ⟨_, rfl⟩
          have hsh : wrap64 (2 ^ j : Int) = (pw : Int) := by rw [hpw]; exact shl_one64 hj16
          have hsh2 : IntKind.i64.wrap (2 ^ j : Int) = (pw : Int) := by rw [hpw]; exact shl_one hj16
          have hpp : pw ≤ 65536 := by rw [hpw]; exact pow_small hj16
          have huw : IntKind.u64.wrap (j : Int) = (j : Int) := IntWalk.u64_in _ (by omega)
          have hmn : min j 64 = j := by omega
          have hj00 : (0 : Int) ≤ (j : Int) := by omega
          have hP7 : P7 = pw + pw := by rw [HP7.out, hpw, Nat.pow_succ]; omega
          have HSH := Hid.intro_ (And.intro hsh (And.intro hsh2 (And.intro huw hmn)))
          have HPJ := Hid.intro_ hpw
          have HPP := Hid.intro_ hP7
          clear hpw hP7
          go_wp2_with (at_make; refine wpList_make_full _ rfl _ _ 328 rfl wo.heap.size 43 iu (.int .u64 0) 1 Tryz.underlying328 hiu hy0 hy1 .i64 .i64 _ _ pw rfl rfl (by simp) (by simp) (by rw [hy2]; omega) (by unfold maxLen; omega) (Nat.le_refl _) ?_; intro w4 ho4 g4
                       have k4 := Keep.of_grown_none g4
                       rw [made_u64] at ho4
                       have HR4 := Hid.intro_ (own_full (g := wo.heap.size) ho4 (by simp [u64s]))
                       have HK4 := Hid.intro_ k4
                       clear ho4 g4 k4)
          obtain ⟨g9, hg9⟩ : ∃ x, x = wo.heap.size := ⟨_, rfl⟩
          rw [← hg9] at HR4 ⊢
          have HG9 := Hid.intro_ hg9
          have HRP := Hid.intro_ (HRO.out.row.keep HK4.out (fun h => h))
          have HPL := Hid.intro_ (show ptr.length = P7 by rw [HRO.out.len, HP7.out])
          have HKB := Hid.intro_ (HKL.out.then_ (HRO.out.keep.then_ HK4.out))
          clear hg9 hsh hsh2 huw hmn
          go_wp2_with fail
          go_loopw [10, 11] (fun v10 v11 wz => ∃ (p n10 c10 : Nat) (C10 : Option Addr), p ≤ pw ∧ v11 = .int .i64 p ∧ v10 = .slice C10 n10 c10 ∧ Hid (n10 = (fltP j ptr p).length) ∧ Hid (wz.ownsRow w4.heap.size 331 2 (.slice C10 n10 c10) n10 (prCells (fltP j ptr p))) ∧ Hid (Keep Nil w4 wz)) (fun _ i _ => pw - (intOf i).toNat)
          case atStart => exact ⟨0, 0, 0, none, Nat.zero_le _, rfl, rfl, Hid.intro_ rfl, Hid.intro_ (World.ownsRow_nil _ _ _ _), Hid.intro_ (Keep.refl _ _)⟩
          case round =>
            obtain ⟨p, n10, c10, C10, hpm, rfl, rfl, HNF, HOF, HKF⟩ := hrel
            by_cases hlp : p < pw
            · obtain ⟨zp, hzp⟩ : ∃ z, z = p + pw := ⟨_, rfl⟩
              obtain ⟨a, ha⟩ : ∃ a, a = ptr.getD p 0 := ⟨_, rfl⟩
              obtain ⟨b, hb⟩ : ∃ b, b = ptr.getD zp 0 := ⟨_, rfl⟩
              have hpr : prN j ptr p = (a, b) := by rw [prN_eq HPJ.out hzp, ha, hb]
              have hpl : ptr.length = pw + pw := by rw [HPL.out, HPP.out]
              have hrw := HRP.out.keep HKF.out (fun h => h)
              have x0 : wr.cell? ⟨g, p, none⟩ = some (.int .u64 (a : Int)) := by rw [ha]; exact hrw.at_ (u64s_at (getD_at (by omega)))
              have x1 : wr.cell? ⟨g, zp, none⟩ = some (.int .u64 (b : Int)) := by rw [hb]; exact hrw.at_ (u64s_at (getD_at (by omega)))
              have hor : bits .or .i64 (p : Int) (pw : Int) = (zp : Int) := by
                rw [i64_or_nat p pw (by omega) (by omega), hzp]
                have := or_pow (j := j) (p := p) (by rw [← HPJ.out]; exact hlp)
                rw [← HPJ.out] at this
                rw [this]
              have hpi : (p : Int) < (pw : Int) := by omega
              have hp0 : (0 : Int) ≤ (p : Int) := by omega
              have hz0 : (0 : Int) ≤ (zp : Int) := by omega
              have hpP : (p : Int) < (P7 : Int) := by have := HPP.out; omega
              have hzP : (zp : Int) < (P7 : Int) := by have := HPP.out; omega
              have hp2 : p < 2 ^ j := by rw [← HPJ.out]; exact hlp
              have HFS := Hid.intro_ (show a = b → fltP j ptr (p + 1) = fltP j ptr p from fun e => flt_same hp2 (by rw [hpr]; exact e))
              have HFM := Hid.intro_ (show ¬ a = b → fltP j ptr (p + 1) = fltP j ptr p ++ [(a, b)] from fun e => by have := flt_more (ptr := ptr) hp2 (by rw [hpr]; exact e); rw [hpr] at this; exact this)
              have HNB := Hid.intro_ (show n10 ≤ 65536 by have := flt_len j ptr p; rw [← HPJ.out] at this; rw [HNF.out]; omega)
              clear hpr hpl hrw ha hb hzp hp2
              obtain ⟨hsh, hsh2, huw, hmn⟩ := HSH.out
              go_wp2_with fail
              go_region_held3 (fun w' => w'.cell? ⟨g, p, none⟩ = some (.int .u64 (a : Int)) ∧ w'.cell? ⟨g, zp, none⟩ = some (.int .u64 (b : Int)))
                (first | exact ⟨x0, x1⟩ | go_keep) ((first | fail))
              obtain ⟨wb, hwb⟩ : ∃ wb, wb = (wr.alloc (.cells #[.int .u64 (a : Int), .int .u64 (b : Int)] 331)).drew := ⟨_, rfl⟩
              rw [← hwb]
              have kb : Keep Nil wr wb := by rw [hwb]; exact ((Keep.refl Nil wr).alloc _).drew
              have bb : Blk wb wr.heap.size 331 #[.int .u64 (a : Int), .int .u64 (b : Int)] := by rw [hwb]; exact (Blk.new wr _ _).drew
              have y0 : wb.cell? ⟨wr.heap.size, 0, none⟩ = some (.int .u64 (a : Int)) := bb.at_ 0
              have y1 : wb.cell? ⟨wr.heap.size, 1, none⟩ = some (.int .u64 (b : Int)) := bb.at_ 1
              have HOD := Hid.intro_ (own_keep HOF.out kb (fun _ _ h => h))
              have HKD := Hid.intro_ (HKF.out.then_ kb)
              clear kb bb hwb x0 x1 hor hpP hzP hz0 hpi hp0 hsh hsh2 huw hmn
              by_cases hab : a = b
              · have HFE := Hid.intro_ (HFS.out hab)
                subst hab
                go_wp2_with fail
                go_roundw
                case rel => exact ⟨p + 1, n10, c10, C10, by omega, by go_num, rfl, Hid.intro_ (by rw [HFE.out]; exact HNF.out), Hid.intro_ (by rw [HFE.out]; exact HOD.out), HKD⟩
                case measure => simp [intOf]; omega
              · have HFE := Hid.intro_ (HFM.out hab)
                have habi : ¬ (a : Int) = (b : Int) := by omega
                go_wp2_with (at_builtin; refine wpList_append_own_at _ rfl (.tmp 78) (.tmp 80) 329 rfl w4.heap.size 331 ip (.agg #[.int .u64 0, .int .u64 0]) 2 16 Tryz.underlying329 hip hz0 hz1 hz2 rfl (by decide) (.slice C10 n10 c10) n10 (prCells (fltP j ptr p)) (by simp [Act.eval]) (own_keep HOD.out ((Keep.refl Nil _).alloc _) (fun g _ h => h)) ⟨wb.heap.size, 0, none⟩ 1 1 [.int .u64 (a : Int), .int .u64 (b : Int)] (by simp [Act.eval]) rfl (news_new rfl) (by simp [Value.oneCell']) (by have := HNB.out; unfold maxLen; omega) (by have := HNB.out; omega) (by have := HKD.out.size; simp; omega) ?_; intro s1 w5 ho5 hg5 _ hs5)
                have k5 : Keep Nil w4 w5 := keep_own (HKD.out.alloc _) (own_keep HOD.out ((Keep.refl Nil _).alloc _) (fun g _ h => h)) (Nat.le_refl _) (Keep.of_grown hg5)
                obtain ⟨C5, c5, hv5⟩ := own_form ho5
                subst hv5
                have HO5 := Hid.intro_ ho5
                have HK5 := Hid.intro_ k5
                clear ho5 hg5 hs5 k5
                go_roundw
                case rel => exact ⟨p + 1, n10 + 1, c5, C5, by omega, by go_num, rfl, Hid.intro_ (by rw [HFE.out, List.length_append, ← HNF.out]; rfl), Hid.intro_ (by rw [HFE.out, prCells_app]; exact HO5.out), HK5⟩
                case measure => simp [intOf]; omega
            · obtain rfl : p = pw := by omega
              have hlev : sortP (fltP j ptr p) = levP j ptr := by rw [HPJ.out]; exact flt_ends j ptr
              have hsr := sorted_any _ (fltP j ptr p) C10 c10 wr (Nat.le_refl _) (own_rd HOF.out) (own_le HOF.out).2 (by rw [← HNF.out]; exact (own_le HOF.out).1) (by have := flt_len j ptr p; rw [← HPJ.out] at this; omega) (TyAt.own HOF.out)
              rw [← HNF.out] at hsr
              have HSR := Hid.intro_ hsr
              have HLEV := Hid.intro_ hlev
              clear hsr hlev
              go_wp2_with fail
              refine HSR.out.mono ?_
              rintro e w6 ⟨⟨B10, m10, d10, rfl, hm10, hr6, hs6, hc6, k6, ht6⟩⟩
              rw [HLEV.out] at hm10 hr6
              have hm16 : m10 ≤ 65536 := by have := lev_len j ptr; rw [← HPJ.out, ← hm10] at this; omega
              have HM10 := Hid.intro_ hm10
              have HRL := Hid.intro_ hr6
              have HSL := Hid.intro_ hs6
              have HTY := Hid.intro_ ht6
              have hko6 : Keep Nil wo w6 := (HK4.out.then_ HKF.out).then_ k6
              have HR9 := Hid.intro_ (HR4.out.keep (HKF.out.then_ k6) (fun h => h))
              have HRP6 := Hid.intro_ (HRP.out.keep (HKF.out.then_ k6) (fun h => h))
              have HOA := Hid.intro_ (own_keep HRO.out.own hko6 (fun _ _ h => h))
              have HK6 := Hid.intro_ (HRO.out.keep.then_ hko6)
              obtain ⟨lv, hlv⟩ : ∃ lv, s.at_[j]? = some lv := ⟨_, List.getElem?_eq_getElem (by have := HL.out; omega)⟩
              have hlv16 : lv < 65536 := by have h1 := HSO.out.lt lv (List.mem_of_getElem? hlv); have h2 := HSN.out; have h3 := HNN.out; omega
              obtain ⟨gc, oc, hCe, hcl⟩ := nat_at (HFA.out.nil HKL.out).la hlv HFA.out.sa
              subst hCe
              have HCL := Hid.intro_ (show ∀ W, Keep Nil WL W → W.cell? ⟨gc, oc + j, none⟩ = some (.int .i64 (lv : Int)) from fun W k => cell_keep hcl k (fun h => h))
              have HLV := Hid.intro_ hlv
              have hjL : (j : Int) < (L : Int) := by omega
              have hwl : IntKind.u64.wrap (lv : Int) = (lv : Int) := IntWalk.u64_in _ (by omega)
              have HNA := Hid.intro_ (show n7 = acc.length from HRO.out.n)
              have HN131 := Hid.intro_ (show n7 ≤ 131072 by rw [HRO.out.n]; exact Nat.le_trans (Nat.le_add_right _ _) HRO.out.cap)
              clear hm10 hr6 hs6 hc6 k6 ht6 hko6 hcl hlv HSR HLEV HOF HKF HNF
              go_wp2_with fail
              go_loopw [7, 13] (fun v7 v13 wz => ∃ (i n8 c8 : Nat) (C8 : Option Addr), i ≤ m10 ∧ v13 = .int .i64 i ∧ v7 = .slice C8 n8 c8 ∧ Hid (n8 = n7 + i) ∧ Hid (wz.ownsRow WL.heap.size 111 4 (.slice C8 n8 c8) n8 (rcCells ((acc ++ (levN lv (levP j ptr)).take i).map N3.rec4))) ∧ Hid (Keep Nil WL wz) ∧ Hid (Keep (OfTy w6 111) w6 wz)) (fun _ i _ => m10 - (intOf i).toNat)
              case atStart => exact ⟨0, n7, c7, C7, Nat.zero_le _, rfl, rfl, Hid.intro_ rfl, Hid.intro_ (by rw [List.take_zero, List.append_nil]; exact HOA.out), HK6, Hid.intro_ (Keep.refl _ _)⟩
              case round =>
                obtain ⟨i, n8, c8, C8, him, rfl, rfl, HN8, HO8, HK8, HKT⟩ := hrel
                by_cases hli : i < m10
                · obtain ⟨y, hy⟩ : ∃ y, (levP j ptr)[i]? = some y := ⟨_, List.getElem?_eq_getElem (by have := HM10.out; omega)⟩
                  have hrl := HRL.out.keep HKT.out (fun a e _ => TyAt.not_ty HTY.out (by decide) a e)
                  obtain ⟨gl, ol, hBe, p0, p1⟩ := pr_at hrl hy HSL.out
                  subst hBe
                  have e1 : wr.cell? ⟨T3, 1, none⟩ = some (.slice (some ⟨gc, oc, none⟩) L cc) := (HBX.out.keep HK8.out (fun h => h)).at_ 1
                  have e2 : wr.cell? ⟨gc, oc + j, none⟩ = some (.int .i64 (lv : Int)) := HCL.out wr HK8.out
                  have hii : (i : Int) < (m10 : Int) := by omega
                  have hi0 : (0 : Int) ≤ (i : Int) := by omega
                  have hwi : IntKind.u64.wrap (i : Int) = (i : Int) := IntWalk.u64_in _ (by omega)
                  obtain ⟨sv, hsv⟩ : ∃ sv, sv = lv * 1099511627776 + i := ⟨_, rfl⟩
                  have hso : bits .or .u64 ((lv : Int) * 1099511627776) (i : Int) = (sv : Int) := by rw [hsv]; exact self_or hlv16 (by omega)
                  have hw40 : IntKind.u64.wrap ((lv : Int) * 1099511627776) = (lv : Int) * 1099511627776 := IntWalk.u64_in _ (by omega)
                  have hso2 : bits .or .u64 (IntKind.u64.wrap ((lv : Int) * 1099511627776)) (i : Int) = (sv : Int) := by rw [hw40]; exact hso
                  have HSV := Hid.intro_ hsv
                  have HY := Hid.intro_ hy
                  have kq : Keep Nil wr wr.drew := (Keep.refl Nil wr).drew
                  have HOE := Hid.intro_ (own_keep HO8.out kq (fun _ _ h => h))
                  have HKQ := Hid.intro_ (HK8.out.then_ kq)
                  have HKU := Hid.intro_ (HKT.out.trans kq (fun _ _ h => h.elim))
                  have HNB := Hid.intro_ (show n8 ≤ 262144 by have := HN8.out; have := HN131.out; omega)
                  have HRC := Hid.intro_ (levN_cells acc HY.out HSV.out)
                  clear hrl hsv hy kq
                  go_wp2_with fail
                  go_region_law (refine step_append_own rfl (.tmp 90) (.tmp 112) 47 rfl WL.heap.size 111 i1 (.agg #[.int .u64 0, .int .u64 0, .int .u64 0, .int .u64 0]) 4 32 Tryz.underlying47 hi1 hx0 hx1 hx2 rfl (by decide) (.slice C8 n8 c8) n8 (rcCells ((acc ++ (levN lv (levP j ptr)).take i).map N3.rec4)) (by simp [Act.eval]) (own_keep HOE.out ((Keep.refl Nil _).alloc _) (fun g _ h => h)) ⟨wr.heap.size, 0, none⟩ 1 1 [.int .u64 (sv : Int), .int .u64 (y.1 : Int), .int .u64 (y.2 : Int), .int .u64 0] (by simp [Act.eval]) rfl (news_new (w := wr.drew) rfl) (by simp [Value.oneCell']) (by have := HNB.out; unfold maxLen; omega) (by have := HNB.out; omega) (by have := HKQ.out.size; simp at this ⊢; omega) ?_; intro C5 c5 w8 ho8 hg8 hs8)
                  all_goals
                    have k8 : Keep Nil WL w8 := keep_own (HKQ.out.alloc _) (own_keep HOE.out ((Keep.refl Nil _).alloc _) (fun g _ h => h)) (Nat.le_refl _) hg8
                    have k9 : Keep (OfTy w6 111) w6 w8 := keep_typed (HKU.out.alloc _) (own_keep HOE.out ((Keep.refl Nil _).alloc _) (fun g _ h => h)) hg8
                    have HO5 := Hid.intro_ ho8.out
                    have HK5 := Hid.intro_ k8
                    have HK9 := Hid.intro_ k9
                    clear ho8 hg8 hs8 k8 k9 hso hso2 hw40 e1 e2 p0 p1 hwi hii hi0
                    go_wp2_with fail
                    go_roundw
                    case rel => exact ⟨i + 1, n8 + 1, c5, C5, by omega, by go_num, rfl, Hid.intro_ (by have := HN8.out; omega), Hid.intro_ (by rw [HRC.out]; exact HO5.out), HK5, HK9⟩
                    case measure => simp [intOf]; omega
                · obtain rfl : i = m10 := by omega
                  obtain ⟨w7, rfl⟩ : ∃ x : World, x = wr := ⟨_, rfl⟩
                  have HOF7 := Hid.intro_ (show w7.ownsRow WL.heap.size 111 4 (.slice C8 n8 c8) n8 (rcCells ((acc ++ levN lv (levP j ptr)).map N3.rec4)) by
                    have := HO8.out
                    rw [HM10.out, levN_all] at this
                    exact this)
                  have HR7 := Hid.intro_ (RowV.keep HR9.out HKT.out (Blk.not_ty HR9.out (by decide)))
                  have HRP7 := Hid.intro_ (RowV.keep HRP6.out HKT.out (Blk.not_ty HRP6.out (by decide)))
                  have HRL7 := Hid.intro_ (HRL.out.keep HKT.out (fun a e _ => TyAt.not_ty HTY.out (by decide) a e))
                  have hty7 := HTY.out.keep HKT.out (TyAt.not_ty HTY.out (by decide))
                  have HBU := Hid.intro_ (show ∀ a, B10 = some a → ¬ a.block = g9 from fun a e e2 => by
                    obtain ⟨cs, hb⟩ := hty7 a e
                    have h2 : Blk w7 g9 43 _ := HR7.out
                    rw [e2] at hb
                    unfold Blk at hb h2
                    rw [hb] at h2
                    injection h2 with h2
                    injection h2 with _ h2
                    exact absurd h2 (by decide))
                  have hgg : ¬ g = g9 := by have := HRO.out.row.lt; have := HG9.out; omega
                  have HGW := Hid.intro_ (show WL.heap.size ≤ g9 by have := HRO.out.keep.size; have := HG9.out; omega)
                  have HN8' := Hid.intro_ (show n8 = (acc ++ levN lv (levP j ptr)).length by rw [List.length_append, levN_len, ← HNA.out, ← HM10.out]; exact HN8.out)
                  clear hty7 HO8 HN8 HN131 HOA
                  go_wp2_with fail
                  go_loopw [14] (fun v14 wz => ∃ (q5 : Nat) (ul : List Nat), q5 ≤ p ∧ v14 = .int .i64 q5 ∧ Hid (RowV wz g9 43 (u64s ul)) ∧ Hid (FillI p (fun q => upOf lv (levP j ptr) (prN j ptr q)) q5 ul) ∧ Hid (Keep (fun z => z = g9) w7 wz)) (fun i _ => p - (intOf i).toNat)
                  case atStart => exact ⟨0, _, Nat.zero_le _, rfl, HR7, Hid.intro_ (FillI.start _ _), Hid.intro_ (Keep.refl _ _)⟩
                  case round =>
                    obtain ⟨q5, ul, hq5, rfl, HRU, HFU, HKZ⟩ := hrel
                    by_cases hlq5 : q5 < p
                    · obtain ⟨zp, hzp⟩ : ∃ z, z = q5 + p := ⟨_, rfl⟩
                      obtain ⟨a, ha⟩ : ∃ a, a = ptr.getD q5 0 := ⟨_, rfl⟩
                      obtain ⟨b, hb⟩ : ∃ b, b = ptr.getD zp 0 := ⟨_, rfl⟩
                      have hpr : prN j ptr q5 = (a, b) := by rw [prN_eq HPJ.out hzp, ha, hb]
                      have hpl : ptr.length = p + p := by rw [HPL.out, HPP.out]
                      have hrw := HRP7.out.keep HKZ.out hgg
                      have x0 : wr.cell? ⟨g, q5, none⟩ = some (.int .u64 (a : Int)) := by rw [ha]; exact hrw.at_ (u64s_at (getD_at (by omega)))
                      have x1 : wr.cell? ⟨g, zp, none⟩ = some (.int .u64 (b : Int)) := by rw [hb]; exact hrw.at_ (u64s_at (getD_at (by omega)))
                      have hor : bits .or .i64 (q5 : Int) (p : Int) = (zp : Int) := by
                        rw [i64_or_nat q5 p (by omega) (by omega), hzp]
                        have := or_pow (j := j) (p := q5) (by rw [← HPJ.out]; exact hlq5)
                        rw [← HPJ.out] at this
                        rw [this]
                      have hpi : (q5 : Int) < (p : Int) := by omega
                      have hp0 : (0 : Int) ≤ (q5 : Int) := by omega
                      have hz0 : (0 : Int) ≤ (zp : Int) := by omega
                      have hpP : (q5 : Int) < (P7 : Int) := by have := HPP.out; omega
                      have hzP : (zp : Int) < (P7 : Int) := by have := HPP.out; omega
                      have hp2 : q5 < 2 ^ j := by rw [← HPJ.out]; exact hlq5
                      have HPT := Hid.intro_ (show ∀ v : Nat, v = upOf lv (levP j ptr) (a, b) → FillI p (fun q => upOf lv (levP j ptr) (prN j ptr q)) (q5 + 1) (ul.set q5 v) from fun v hv => HFU.out.put hlq5 (by rw [hv, ← hpr]))
                      have HRK := Hid.intro_ (show ¬ a = b → (levP j ptr)[(levP j ptr).idxOf (a, b)]? = some (a, b) ∧ (levP j ptr).idxOf (a, b) < 2 ^ j from fun e => by
                        have h1 := lev_rank (ptr := ptr) hp2 (by rw [hpr]; exact e)
                        have h2 := lev_rank_lt (ptr := ptr) hp2 (by rw [hpr]; exact e)
                        rw [hpr] at h1 h2
                        exact ⟨h1, h2⟩)
                      obtain ⟨x9, hx9⟩ : ∃ x9, ul[q5]? = some x9 := ⟨_, List.getElem?_eq_getElem (by have := HFU.out.len; omega)⟩
                      have HX9 := Hid.intro_ hx9
                      clear hpr hpl hrw ha hb hzp hp2 hx9
                      obtain ⟨hsh, hsh2, huw, hmn⟩ := HSH.out
                      go_wp2_with fail
                      go_region_held3 (fun w' => w'.cell? ⟨g, q5, none⟩ = some (.int .u64 (a : Int)) ∧ w'.cell? ⟨g, zp, none⟩ = some (.int .u64 (b : Int)))
                        (first | exact ⟨x0, x1⟩ | go_keep) ((first | fail))
                      obtain ⟨wb, hwb⟩ : ∃ wb, wb = (wr.alloc (.cells #[.int .u64 (a : Int), .int .u64 (b : Int)] 331)).drew := ⟨_, rfl⟩
                      rw [← hwb]
                      have kb : Keep Nil wr wb := by rw [hwb]; exact ((Keep.refl Nil wr).alloc _).drew
                      have bb : Blk wb wr.heap.size 331 #[.int .u64 (a : Int), .int .u64 (b : Int)] := by rw [hwb]; exact (Blk.new wr _ _).drew
                      have y0 : wb.cell? ⟨wr.heap.size, 0, none⟩ = some (.int .u64 (a : Int)) := bb.at_ 0
                      have hru := HRU.out.keep kb (fun h => h)
                      have z0 : wb.cell? ⟨g9, q5, none⟩ = some (.int .u64 (x9 : Int)) := hru.at_ (u64s_at HX9.out)
                      have zf := hru.fr q5
                      have HRV := Hid.intro_ hru
                      have HKB2 := Hid.intro_ (HKZ.out.trans kb (fun _ _ h => h.elim))
                      have hgw : g9 < wr.heap.size := HRU.out.lt
                      have hg1 : ¬ g9 = wr.heap.size := by omega
                      have hg2 : ¬ wr.heap.size = g9 := by omega
                      have HBB := Hid.intro_ bb
                      clear kb bb hwb x0 x1 hor hpP hzP hz0 hsh hsh2 huw hmn hru hgw
                      go_upto_region 32 with (fail)
                      obtain ⟨wd, hwd⟩ : ∃ wd, wd = wb.setCell ⟨g9, q5, none⟩ (.int .u64 (a : Int)) := ⟨_, rfl⟩
                      rw [← hwd]
                      have kd : Keep (fun z => z = g9) w7 wd := by rw [hwd]; exact HKB2.out.setCell (p := ⟨g9, q5, none⟩) (fun _ => rfl) _
                      have rd : RowV wd g9 43 (u64s (ul.set q5 a)) := by rw [hwd]; exact row_set HRV.out q5 a
                      have bd : Blk wd wr.heap.size 331 #[.int .u64 (a : Int), .int .u64 (b : Int)] := by rw [hwd]; exact HBB.out.keep ((Keep.refl (fun z => z = g9) wb).setCell (p := ⟨g9, q5, none⟩) (fun _ => rfl) _) hg2
                      have d0 : wd.cell? ⟨wr.heap.size, 0, none⟩ = some (.int .u64 (a : Int)) := bd.at_ 0
                      have d1 : wd.cell? ⟨wr.heap.size, 1, none⟩ = some (.int .u64 (b : Int)) := bd.at_ 1
                      have HKD := Hid.intro_ kd
                      have HRD := Hid.intro_ rd
                      clear kd rd bd hwd y0 z0 zf hg1 hg2
                      by_cases hab : a = b
                      · have HPT2 := Hid.intro_ (HPT.out a (upOf_same (x := (a, b)) hab))
                        subst hab
                        clear hpi hp0
                        go_wp2_with fail
                        go_roundw
                        case rel => exact ⟨q5 + 1, ul.set q5 a, by omega, by go_num, HRD, HPT2, HKD⟩
                        case measure => simp [intOf]; omega
                      · obtain ⟨hk1, hk2⟩ := HRK.out hab
                        obtain ⟨k, hk⟩ : ∃ k, k = (levP j ptr).idxOf (a, b) := ⟨_, rfl⟩
                        rw [← hk] at hk1 hk2
                        have hk16 : k ≤ 65536 := by rw [← HPJ.out] at hk2; omega
                        have hrk := rank_any B10 d10 (levP j ptr) (a, b) k wd (HRL7.out.keep HKD.out (fun x e _ => HBU.out x e)) HSL.out (by rw [← HM10.out]; omega) (sortP_rise _) hk1
                        rw [← HM10.out] at hrk
                        unfold prV at hrk
                        simp only at hrk
                        have HRQ := Hid.intro_ hrk
                        have HKI := Hid.intro_ hk
                        have habi : ¬ (a : Int) = (b : Int) := by omega
                        clear hrk hk hk1 hk2
                        go_wp2_with fail
                        refine HRQ.out.mono ?_
                        rintro e we ⟨rfl, ke⟩
                        have kwe : Keep Nil WL we := (HK8.out.trans HKD.out (fun z hz e => by have e : z = g9 := e; have := HGW.out; omega)).then_ ke
                        have e1 : we.cell? ⟨T3, 1, none⟩ = some (.slice (some ⟨gc, oc, none⟩) L cc) := (HBX.out.keep kwe (fun h => h)).at_ 1
                        have e2 : we.cell? ⟨gc, oc + j, none⟩ = some (.int .i64 (lv : Int)) := HCL.out we kwe
                        have hrd := HRD.out.keep ke (fun h => h)
                        have z0 : we.cell? ⟨g9, q5, none⟩ = some (.int .u64 (a : Int)) := hrd.at_ (u64s_at (List.getElem?_set_self (by have := HFU.out.len; omega)))
                        have zf := hrd.fr q5
                        have HRE := Hid.intro_ hrd
                        have HKE := Hid.intro_ (HKD.out.trans ke (fun _ _ h => h.elim))
                        have hwk : IntKind.u64.wrap (k : Int) = (k : Int) := IntWalk.u64_in _ (by omega)
                        obtain ⟨sv, hsv⟩ : ∃ sv, sv = lv * 1099511627776 + k := ⟨_, rfl⟩
                        have hso : bits .or .u64 ((lv : Int) * 1099511627776) (k : Int) = (sv : Int) := by rw [hsv]; exact self_or hlv16 (by omega)
                        have HPT2 := Hid.intro_ (HPT.out sv (by rw [hsv, HKI.out]; exact upOf_more (x := (a, b)) hab))
                        clear kwe hrd hsv d0 d1 hab habi HRQ ke
                        go_wp2_with fail
                        go_roundw
                        case rel => exact ⟨q5 + 1, (ul.set q5 a).set q5 sv, by omega, by go_num, Hid.intro_ (row_set HRE.out q5 sv), Hid.intro_ (by rw [List.set_set]; exact HPT2.out), Hid.intro_ (HKE.out.setCell (p := ⟨g9, q5, none⟩) (fun _ => rfl) _)⟩
                        case measure => simp [intOf]; omega
                    · have hqp : q5 = p := by omega
                      have hqi : ¬ (q5 : Int) < (p : Int) := by omega
                      have hul : ul = upN lv j ptr := by
                        have h := HFU.out
                        rw [hqp, HPJ.out] at h
                        exact up_fin h
                      have HRU2 := Hid.intro_ (show RowV wr g9 43 (u64s (upN lv j ptr)) by rw [← hul]; exact HRU.out)
                      have HKW := Hid.intro_ (show Keep Nil WL wr from HK8.out.trans HKZ.out (fun z hz e => by have e : z = g9 := e; have := HGW.out; omega))
                      have HOW := Hid.intro_ (own_keep HOF7.out HKZ.out (fun g' hg' e => by
                        have e : g' = g9 := e
                        obtain ⟨cs, hb⟩ := own_blk HOF7.out hg'
                        have h2 : Blk w7 g9 43 _ := HR7.out
                        rw [e] at hb
                        unfold Blk at hb h2
                        rw [hb] at h2
                        injection h2 with h2
                        injection h2 with _ h2
                        exact absurd h2 (by decide)))
                      obtain ⟨zj, hzj⟩ : ∃ z : Int, z = (j : Int) - 1 := ⟨_, rfl⟩
                      have hw1 : wrap64 ((j : Int) - 1) = zj := by rw [hzj]; unfold wrap64; omega
                      have hw2 : IntKind.i64.wrap ((j : Int) - 1) = zj := by rw [hzj, IntKind.wrap_i64]; omega
                      have HZJ := Hid.intro_ (show zj + 1 = (j : Int) by omega)
                      have HNX := Hid.intro_ (HRO.out.next HLV.out hlv16 hj16 HRU2.out HOW.out HN8'.out HKW.out)
                      clear hqp hul hzj hj00
                      go_wp2_with fail
                      go_roundw
                      case rel => exact ⟨j, g9, p, n8, c8, upN lv j ptr, acc ++ levN lv (levP j ptr), C8, zj, rfl, rfl, rfl, by omega, HZJ, HPJ, HNX⟩
                      case measure => have := HZJ.out; simp [intOf]; omega
end Go.Proofs.YtadipinnbehhhaaGreatDoor
