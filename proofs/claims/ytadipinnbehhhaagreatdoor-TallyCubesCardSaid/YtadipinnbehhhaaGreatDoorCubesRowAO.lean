/- Parts of the proof: DgP Ready CuK RecsD RefD EvalP AsksOpen. -/
import Derived.LoopN
import Derived.Deep.LoopGhost
import Derived.Test.YtadipinnbehhhaaGreatDoorCubesRowAN
import Derived.Test.YtadipinnbehhhaaGreatDoorCubesRowAL
import Derived.Test.YtadipinnbehhhaaGreatDoorCubesRowAH
import Derived.Test.YtadipinnbehhhaaGreatDoorCubesRowAI
namespace Go.Proofs.YtadipinnbehhhaaGreatDoor
open Go.RowKit

structure Dg where
  v : Nat
  r : Nat
  m : Nat
  P : List N3
def ofL (L : List R4) : Option Dg := match openedL L with
  | none => none
  | some (v, r, m) => if (walkN true v r (m + 1) (L.take m) 0 n0).2 = false ∧ (m = 0 ∨ (lastN (walkN true v r (m + 1) (L.take m) 0 n0).1).self = r) then some ⟨v, r, m, (walkN true v r (m + 1) (L.take m) 0 n0).1⟩ else none
def recsD (d : Dg) : List R4 := d.P.map N3.rec4 ++ [⟨18446744073709551615, d.v, d.r, d.m⟩]
def Later (a b : N3) : Prop := sL b.self < sL a.self ∨ (sL a.self = sL b.self ∧ sI a.self < sI b.self)
theorem Later.trans {a b c : N3} (h : Later a b) (k : Later b c) : Later a c := by
  unfold Later at *
  omega
theorem Later.ne {a b : N3} (h : Later a b) : a.self ≠ b.self := fun e => by
  unfold Later at h
  rw [e] at h
  omega
theorem later_flw {t s : N3} (h : flw t.self t.low t.high s.self s.low s.high = true) : Later s t := by
  unfold flw at h
  unfold Later
  split at h
  · rename_i e
    simp only [Bool.and_eq_true, decide_eq_true_eq] at h
    exact .inr ⟨e.symm, by omega⟩
  · simp only [Bool.and_eq_true, decide_eq_true_eq] at h
    exact .inl h.1
theorem fits_up {r M g : Nat} {last n : N3} (h : fitsB true r M g last n = true) (hg : 0 < g) : flw n.self n.low n.high last.self last.low last.high = true := by
  unfold fitsB at h
  rw [if_neg (by omega)] at h
  simp only [if_true, Bool.and_eq_true] at h
  exact h.1
theorem walk_cons {up : Bool} {v r M g : Nat} {last : N3} {q : R4} {qs : List R4} {P : List N3} (h : walkN up v r M (q :: qs) g last = (P, false)) :
    (q.isN v && fitsB up r M g last q.n3) = true ∧ ∃ P', P = q.n3 :: P' ∧ walkN up v r M qs (g + 1) q.n3 = (P', false) := by
  have e : walkN up v r M (q :: qs) g last = if (q.isN v && fitsB up r M g last q.n3) = true then (q.n3 :: (walkN up v r M qs (g + 1) q.n3).1, (walkN up v r M qs (g + 1) q.n3).2) else ([], true) := rfl
  rw [e] at h
  split at h
  · rename_i hc
    injection h with h1 h2
    exact ⟨hc, _, h1.symm, Prod.ext rfl h2⟩
  · injection h with h1 h2
    cases h2
theorem walk_later {v r M : Nat} : ∀ (qs : List R4) (g : Nat) (last : N3) (P : List N3), 0 < g → walkN true v r M qs g last = (P, false) → List.Pairwise Later (last :: P)
  | [], g, last, P, hg, h => by
    have h : (([], false) : List N3 × Bool) = (P, false) := h
    injection h with h1 h2
    subst h1
    exact List.pairwise_singleton _ _
  | q :: qs, g, last, P, hg, h => by
    obtain ⟨hc, P', rfl, hw⟩ := walk_cons h
    have ih := walk_later qs (g + 1) q.n3 P' (by omega) hw
    simp only [Bool.and_eq_true] at hc
    have h1 := later_flw (fits_up hc.2 hg)
    refine List.pairwise_cons.2 ⟨fun x hx => ?_, ih⟩
    rcases List.mem_cons.1 hx with rfl | hx
    · exact h1
    · exact h1.trans ((List.pairwise_cons.1 ih).1 x hx)
theorem walk_pairs {v r M : Nat} {qs : List R4} {last : N3} {P : List N3} (h : walkN true v r M qs 0 last = (P, false)) : List.Pairwise Later P := by
  cases qs with
  | nil =>
    have h : (([], false) : List N3 × Bool) = (P, false) := h
    injection h with h1 h2
    subst h1
    exact List.Pairwise.nil
  | cons q qs =>
    obtain ⟨hc, P', rfl, hw⟩ := walk_cons h
    exact walk_later qs 1 q.n3 P' (by omega) hw
theorem isN_d {q : R4} {v : Nat} (h : q.isN v = true) : q = N3.rec4 q.n3 := by
  unfold R4.isN isN at h
  simp only [Bool.and_eq_true, decide_eq_true_eq] at h
  have hd := h.1.1.1.2
  cases q
  simp only at hd
  subst hd
  rfl
theorem walk_recs {up : Bool} {v r M : Nat} : ∀ (qs : List R4) (g : Nat) (last : N3) (P : List N3), walkN up v r M qs g last = (P, false) → qs = P.map N3.rec4 ∧ ∀ n ∈ P, isN n.self n.low n.high 0 v = true
  | [], g, last, P, h => by
    have h : (([], false) : List N3 × Bool) = (P, false) := h
    injection h with h1 h2
    subst h1
    exact ⟨rfl, fun n hn => by simp at hn⟩
  | q :: qs, g, last, P, h => by
    obtain ⟨hc, P', rfl, hw⟩ := walk_cons h
    obtain ⟨e, hn⟩ := walk_recs qs (g + 1) q.n3 P' hw
    simp only [Bool.and_eq_true] at hc
    have hq := isN_d hc.1
    refine ⟨by rw [e, List.map_cons, ← hq], fun n hm => ?_⟩
    rcases List.mem_cons.1 hm with rfl | hm
    · have h2 := hc.1
      unfold R4.isN at h2
      have hd : q.d = 0 := by rw [hq]; rfl
      rw [hd] at h2
      exact h2
    · exact hn n hm
theorem walk_root {v r : Nat} : ∀ (qs : List R4) (g m : Nat) (last : N3) (P : List N3), g + qs.length = m → walkN true v r (m + 1) qs g last = (P, false) → (qs = [] ∨ (lastN P).self = r) → walkN true v r m qs g last = (P, false)
  | [], g, m, last, P, hg, h, hr => h
  | q :: qs, g, m, last, P, hg, h, hr => by
    obtain ⟨hc, P', rfl, hw⟩ := walk_cons h
    simp only [List.length_cons] at hg
    have hP : P'.length = qs.length := by
      have := (walk_recs _ _ _ _ hw).1
      rw [this, List.length_map]
    have ih := walk_root qs (g + 1) m q.n3 P' (by omega) hw (by
      cases qs with
      | nil => exact .inl rfl
      | cons a b =>
        rcases hr with hr | hr
        · cases hr
        · right
          cases P' with
          | nil => simp at hP
          | cons x y =>
            unfold lastN at *
            rw [List.getLastD_cons] at hr
            rw [List.getLastD_cons] at hr ⊢
            exact hr)
    have e : walkN true v r m (q :: qs) g last = if (q.isN v && fitsB true r m g last q.n3) = true then (q.n3 :: (walkN true v r m qs (g + 1) q.n3).1, (walkN true v r m qs (g + 1) q.n3).2) else ([], true) := rfl
    rw [e, if_pos, ih]
    simp only [Bool.and_eq_true] at hc ⊢
    refine ⟨hc.1, ?_⟩
    have h2 := hc.2
    unfold fitsB at h2 ⊢
    simp only [Bool.and_eq_true, Bool.or_eq_true, decide_eq_true_eq, if_true] at h2 ⊢
    refine ⟨h2.1, ?_⟩
    rcases Nat.lt_or_ge (g + 1) m with h3 | h3
    · exact .inl h3
    · right
      have hq : qs = [] := List.eq_nil_of_length_eq_zero (by omega)
      rcases hr with hr | hr
      · cases hr
      · have hP0 : P' = [] := List.eq_nil_of_length_eq_zero (by rw [hP, hq]; rfl)
        subst hP0
        exact hr
structure InRows (d : Dg) : Prop where
  len : d.P.length = d.m
  lt : d.m < 1099511627776
  vars : d.v ≤ 65536
  rootlt : d.r < 18446744073709551616
  rows : walkN true d.v d.r (d.m + 1) (d.P.map N3.rec4) 0 n0 = (d.P, false)
  isE : isE 18446744073709551615 d.v d.r d.m = true
  root : 0 < d.m → (lastN d.P).self = d.r
  okn : ∀ n ∈ d.P, n.self < 18446744073709551616 ∧ n.low < 18446744073709551616 ∧ n.high < 18446744073709551616
section
variable {d : Dg} {L : List R4}
theorem recsD_len (d : Dg) : (recsD d).length = d.P.length + 1 := by simp [recsD]
theorem recsD_take (h : d.P.length = d.m) : (recsD d).take d.m = d.P.map N3.rec4 := by
  unfold recsD
  rw [← h, List.take_left']
  simp
theorem InRows.ends (h : InRows d) : endL (recsD d) = some (d.v, d.r, d.m) := by
  unfold endL recsD
  rw [List.reverse_append]
  simp only [List.reverse_cons, List.reverse_nil, List.nil_append, List.singleton_append]
  rw [if_pos h.isE]
theorem InRows.opens (h : InRows d) : openedL (recsD d) = some (d.v, d.r, d.m) := by
  unfold openedL
  rw [h.ends]
  simp only
  rw [if_pos (by rw [recsD_len, h.len])]
theorem InRows.of_ (h : InRows d) : ofL (recsD d) = some d := by
  have hc : d.m = 0 ∨ (lastN d.P).self = d.r := (Nat.eq_zero_or_pos d.m).elim .inl (fun h0 => .inr (h.root h0))
  unfold ofL
  rw [h.opens]
  simp only
  rw [recsD_take h.len, h.rows, if_pos ⟨rfl, hc⟩]
theorem InRows.full (h : InRows d) : walkN true d.v d.r d.m (d.P.map N3.rec4) 0 n0 = (d.P, false) := by
  refine walk_root _ 0 d.m n0 d.P (by rw [List.length_map, h.len]; omega) h.rows ?_
  rcases Nat.eq_zero_or_pos d.m with h0 | h0
  · left
    rw [← h.len] at h0
    rw [List.eq_nil_of_length_eq_zero h0]; rfl
  · exact .inr (h.root h0)
theorem InRows.pairs (h : InRows d) : List.Pairwise Later d.P := walk_pairs h.rows
theorem InRows.node (h : InRows d) {n : N3} (hn : n ∈ d.P) : isN n.self n.low n.high 0 d.v = true := (walk_recs _ _ _ _ h.rows).2 n hn
theorem InRows.inn (h : InRows d) {n : N3} (hn : n ∈ d.P) : sIn n.self = true := isN_in (h.node hn)
theorem InRows.oks (h : InRows d) : ∀ r ∈ recsD d, r.Ok := by
  intro r hr
  rcases List.mem_append.1 hr with h1 | h1
  · obtain ⟨n, hn, rfl⟩ := List.mem_map.1 h1
    obtain ⟨a, b, c⟩ := h.okn n hn
    exact ⟨a, b, c, Nat.succ_pos _⟩
  · rw [List.mem_singleton.1 h1]
    have h2 := h.lt
    exact ⟨Nat.lt_succ_self 18446744073709551615, by show d.v < _; have := h.vars; omega, h.rootlt, by show d.m < _; omega⟩
theorem InRows.uniq (h : InRows d) {i j : Nat} {a b : N3} (ha : d.P[i]? = some a) (hb : d.P[j]? = some b) (e : a.self = b.self) : i = j := by
  obtain ⟨hi, ea⟩ := List.getElem?_eq_some_iff.1 ha
  obtain ⟨hj, eb⟩ := List.getElem?_eq_some_iff.1 hb
  rcases Nat.lt_trichotomy i j with h1 | h1 | h1
  · have := List.pairwise_iff_getElem.1 h.pairs i j hi hj h1
    rw [ea, eb] at this
    exact absurd e this.ne
  · exact h1
  · have := List.pairwise_iff_getElem.1 h.pairs j i hj hi h1
    rw [ea, eb] at this
    exact absurd e.symm this.ne
end

def startsN (v : Nat) (P : List N3) : Nat → List Int
  | 0 => List.replicate v (-1)
  | i + 1 => match P[i]? with
    | none => startsN v P i
    | some n => if sI n.self = 0 then (startsN v P i).set (sL n.self).toNat i else startsN v P i
theorem startsN_len (v : Nat) (P : List N3) : ∀ i, (startsN v P i).length = v
  | 0 => by simp [startsN]
  | i + 1 => by
    unfold startsN
    split
    · exact startsN_len v P i
    · split
      · rw [List.length_set]; exact startsN_len v P i
      · exact startsN_len v P i
def Dg.starts (d : Dg) : List Int := startsN d.v d.P d.m
def findL (d : Dg) (S : List Int) (p : Nat) : Int :=
  if nOk p d.v = true then
    (let s := S.getD (sL p).toNat 0
     if s < 0 ∨ (d.P.length : Int) < sI p then -1 else if (d.P.length : Int) ≤ s + sI p then -1 else if ((d.P.map (·.self)).getD (s + sI p).toNat 0) = p then s + sI p else -1)
  else -1
def ClosedD (d : Dg) : Prop := ∀ n ∈ d.P, (sF n.low = true ∨ 0 ≤ findL d d.starts n.low) ∧ (sF n.high = true ∨ 0 ≤ findL d d.starts n.high)
structure DgOk (d : Dg) : Prop where
  rows : InRows d
  closed : ClosedD d
section
variable {d : Dg} {S : List Int} {p : Nat}
theorem sI_nn (p : Nat) : 0 ≤ sI p := by
  unfold sI
  split <;> omega
theorem findL_some (h : 0 ≤ findL d S p) : ∃ (i : Nat) (n : N3), findL d S p = i ∧ d.P[i]? = some n ∧ n.self = p ∧ nOk p d.v = true := by
  obtain ⟨f, hf⟩ : ∃ f, f = findL d S p := ⟨_, rfl⟩
  rw [← hf] at h ⊢
  unfold findL at hf
  split at hf
  · rename_i hn
    simp only at hf
    split at hf
    · omega
    · rename_i h1
      split at hf
      · omega
      · rename_i h2
        split at hf
        · rename_i h3
          have hi := sI_nn p
          obtain ⟨i, hi2⟩ : ∃ i : Nat, S.getD (sL p).toNat 0 + sI p = (i : Int) := ⟨(S.getD (sL p).toNat 0 + sI p).toNat, by omega⟩
          rw [hi2] at h2 h3 hf
          rw [Int.toNat_natCast] at h3
          have hlt : i < d.P.length := by omega
          refine ⟨i, d.P[i], hf, List.getElem?_eq_getElem hlt, ?_, hn⟩
          rw [← h3, List.getD_eq_getElem?_getD, List.getElem?_map, List.getElem?_eq_getElem hlt]
          rfl
        · omega
  · omega
theorem InRows.find_root (h : InRows d) (hm : 0 < d.m) : 0 ≤ findL d d.starts d.r := by
  have hlast := h.root hm
  obtain ⟨n, hn, hl, hmem⟩ := lastN_at h.len hm
  rw [hl] at hlast
  have hE := h.isE
  unfold Go.Proofs.YtadipinnbehhhaaGreatDoor.isE at hE
  simp only [Bool.and_eq_true, decide_eq_true_eq] at hE
  have hin := h.inn hmem
  rw [hlast] at hin
  have hsf : sF d.r = false := by
    unfold sIn at hin
    simp only [Bool.and_eq_true, Bool.not_eq_true'] at hin
    exact hin.1
  have h3 := hE.2
  rw [hsf] at h3
  simp only [Bool.false_eq_true, if_false, Bool.and_eq_true, decide_eq_true_eq] at h3
  have hi0 := h3.1.2
  have hsl := sL_lt d.r
  have hlv : sL d.r < d.v := by
    have := h3.1.1
    unfold nOk at this
    simp only [Bool.and_eq_true, decide_eq_true_eq] at this
    exact this.2
  have hs : d.starts = (startsN d.v d.P (d.m - 1)).set (sL d.r).toNat ((d.m - 1 : Nat) : Int) := by
    unfold Dg.starts
    obtain ⟨k, hk⟩ : ∃ k, d.m = k + 1 := ⟨d.m - 1, by omega⟩
    rw [hk] at hn ⊢
    simp only [Nat.add_sub_cancel] at hn ⊢
    show (match d.P[k]? with | none => _ | some n => if sI n.self = 0 then _ else _) = _
    rw [hn]
    simp only
    rw [hlast, if_pos hi0]
  have hg : d.starts.getD (sL d.r).toNat 0 = ((d.m - 1 : Nat) : Int) := by
    rw [hs, List.getD_eq_getElem?_getD, List.getElem?_set_self (by rw [startsN_len]; omega)]
    rfl
  have e : findL d d.starts d.r = ((d.m - 1 : Nat) : Int) := by
    unfold findL
    rw [if_pos h3.1.1, hg, hi0]
    have hlen := h.len
    simp only
    rw [if_neg (by omega), if_neg (by omega), if_pos, Int.add_zero]
    rw [Int.add_zero, Int.toNat_natCast, List.getD_eq_getElem?_getD, List.getElem?_map, hn]
    exact hlast
  rw [e]
  omega
def Leads (d : Dg) (p : Nat) : Prop := sF p = true ∨ 0 ≤ findL d d.starts p
theorem DgOk.root (h : DgOk d) : Leads d d.r := by
  rcases Nat.eq_zero_or_pos d.m with h0 | h0
  · left
    have hE := h.rows.isE
    unfold Go.Proofs.YtadipinnbehhhaaGreatDoor.isE at hE
    simp only [Bool.and_eq_true, decide_eq_true_eq] at hE
    have h3 := hE.2
    split at h3
    · assumption
    · simp only [Bool.and_eq_true, decide_eq_true_eq] at h3
      omega
  · exact .inr (h.rows.find_root h0)
theorem InRows.find_at (h : InRows d) {i : Nat} {n : N3} (hn : d.P[i]? = some n) : d.P.find? (fun x => x.self == n.self) = some n := by
  cases hf : d.P.find? (fun x => x.self == n.self) with
  | none =>
    have := List.find?_eq_none.1 hf n (List.mem_of_getElem? hn)
    simp at this
  | some x =>
    have h1 := List.find?_some hf
    obtain ⟨j, hj⟩ := List.getElem?_of_mem (List.mem_of_find?_eq_some hf)
    have e : x.self = n.self := by simpa using h1
    have := h.uniq hj hn e
    subst this
    rw [hj] at hn
    exact hn
theorem rU_level {p : Nat} {l n : Int} (h : rU p l n = true) (hs : sF p = false) : l < sL p := by
  unfold rU at h
  rw [hs] at h
  simp only [Bool.false_or, Bool.and_eq_true, decide_eq_true_eq] at h
  exact h.2
end
def prevN (P : List N3) (last : N3) (k : Nat) : N3 := if k = 0 then last else P.getD (k - 1) n0
theorem walk_of {up : Bool} {v r M : Nat} : ∀ (P : List N3) (g : Nat) (last : N3), (∀ k n, P[k]? = some n → (n.rec4.isN v && fitsB up r M (g + k) (prevN P last k) n) = true) → walkN up v r M (P.map N3.rec4) g last = (P, false)
  | [], g, last, h => rfl
  | n :: P, g, last, h => by
    have h0 := h 0 n rfl
    have ih := walk_of P (g + 1) n (fun k x hx => by
      have h1 := h (k + 1) x (by simpa using hx)
      rw [show g + (k + 1) = g + 1 + k by omega] at h1
      have e : prevN (n :: P) last (k + 1) = prevN P n k := by
        unfold prevN
        rw [if_neg (by omega), Nat.add_sub_cancel]
        cases k with
        | zero => rfl
        | succ k => rw [if_neg (by omega), Nat.add_sub_cancel]; rfl
      rw [e] at h1
      exact h1)
    have e : walkN up v r M ((n :: P).map N3.rec4) g last = if (n.rec4.isN v && fitsB up r M g last n.rec4.n3) = true then (n.rec4.n3 :: (walkN up v r M (P.map N3.rec4) (g + 1) n.rec4.n3).1, (walkN up v r M (P.map N3.rec4) (g + 1) n.rec4.n3).2) else ([], true) := rfl
    have h0' : (n.rec4.isN v && fitsB up r M g last n.rec4.n3) = true := h0
    rw [e, if_pos h0', show n.rec4.n3 = n from rfl, ih]
theorem walk_at {up : Bool} {v r M : Nat} : ∀ (P : List N3) (g : Nat) (last : N3), walkN up v r M (P.map N3.rec4) g last = (P, false) → ∀ k n, P[k]? = some n → (n.rec4.isN v && fitsB up r M (g + k) (prevN P last k) n) = true
  | [], g, last, h, k, n, hn => by simp at hn
  | x :: P, g, last, h, k, n, hn => by
    obtain ⟨hc, P', e1, hw⟩ := walk_cons h
    have e2 : x.rec4.n3 = x := rfl
    rw [e2] at hc e1 hw
    injection e1 with _ e1
    subst e1
    cases k with
    | zero =>
      simp only [List.getElem?_cons_zero, Option.some.injEq] at hn
      subst hn
      exact hc
    | succ k =>
      have ih := walk_at P (g + 1) x hw k n (by simpa using hn)
      rw [show g + (k + 1) = g + 1 + k by omega]
      have e : prevN (x :: P) last (k + 1) = prevN P x k := by
        unfold prevN
        rw [if_neg (by omega), Nat.add_sub_cancel]
        cases k with
        | zero => rfl
        | succ k => rw [if_neg (by omega), Nat.add_sub_cancel]; rfl
      rw [e]
      exact ih
section
variable {d : Dg}
theorem InRows.up_at (h : InRows d) {k : Nat} {n : N3} (hn : d.P[k]? = some n) : (n.rec4.isN d.v && fitsB true d.r d.m k (prevN d.P n0 k) n) = true := by
  have := walk_at d.P 0 n0 h.full k n hn
  rw [Nat.zero_add] at this
  exact this
theorem InRows.down (h : InRows d) : walkN false d.v d.r d.m ((d.P.map N3.rec4).reverse) 0 n0 = (d.P.reverse, false) := by
  rw [← List.map_reverse]
  refine walk_of _ 0 n0 (fun k n hn => ?_)
  have hlen := h.len
  have hk : k < d.P.length := by
    have := (List.getElem?_eq_some_iff.1 hn).1
    rw [List.length_reverse] at this
    exact this
  rw [List.getElem?_reverse hk] at hn
  have hu := h.up_at hn
  simp only [Bool.and_eq_true] at hu ⊢
  refine ⟨hu.1, ?_⟩
  rw [Nat.zero_add]
  have hu2 := hu.2
  unfold fitsB at hu2 ⊢
  simp only [Bool.and_eq_true, Bool.or_eq_true, decide_eq_true_eq, Bool.false_eq_true, if_false, if_true] at hu2 ⊢
  refine ⟨?_, ?_⟩
  · rcases Nat.eq_zero_or_pos k with h0 | h0
    · rw [if_pos h0]
      subst h0
      rcases hu2.2 with h2 | h2
      · omega
      · exact decide_eq_true h2
    · rw [if_neg (by omega)]
      obtain ⟨x, hx⟩ : ∃ x, d.P[d.P.length - k]? = some x := ⟨_, List.getElem?_eq_getElem (by omega)⟩
      have hux := h.up_at hx
      simp only [Bool.and_eq_true] at hux
      have hf := fits_up hux.2 (by omega)
      have e1 : prevN d.P n0 (d.P.length - k) = n := by
        unfold prevN
        rw [if_neg (by omega), List.getD_eq_getElem?_getD, show d.P.length - k - 1 = d.P.length - 1 - k by omega, hn]
        rfl
      have e2 : prevN d.P.reverse n0 k = x := by
        unfold prevN
        rw [if_neg (by omega), List.getD_eq_getElem?_getD, List.getElem?_reverse (by omega), show d.P.length - 1 - (k - 1) = d.P.length - k by omega, hx]
        rfl
      rw [e1] at hf
      rw [e2]
      exact hf
  · rcases Nat.lt_or_ge (k + 1) d.m with h2 | h2
    · exact .inl h2
    · right
      have h3 := hu2.1
      rw [if_pos (by omega)] at h3
      simpa using h3
theorem recsD_rev (d : Dg) : (recsD d).reverse.tail = (d.P.map N3.rec4).reverse := by
  unfold recsD
  rw [List.reverse_append]
  rfl
end
section
variable {d : Dg} {bits : List Bool} {p f : Nat}
end
end Go.Proofs.YtadipinnbehhhaaGreatDoor
namespace Go.Proofs.YtadipinnbehhhaaGreatDoor
open Go.RowKit

section
variable {c : Cx} {w w' : World} {b : Nat} {G : Nat → Prop} {s s' : RSt} {fs : List (ByteArray × AFile)} {name name2 : ByteArray} {L L2 : List R4}

end
end Go.Proofs.YtadipinnbehhhaaGreatDoor
namespace Go.Proofs.YtadipinnbehhhaaGreatDoor
open Go.RowKit

structure KX where
  c : Cx
  name : ByteArray
  L : List R4
  up : Bool
  d : Dg
  P : List N3
  tl : List R4
  cb : Nat
  b : Nat
  G0 : Nat → Prop
  s0 : RSt
  H : Nat → Prop
  Y : World
  Q : Nat
structure KOk (X : KX) (fs : List (ByteArray × AFile)) : Prop where
  tape : TapeOn X.c fs X.name 2 X.L
  calm : Calm X.s0.D X.c.block fs
  at_ : ∀ k n, X.P[k]? = some n → (n.rec4.isN X.d.v && fitsB X.up X.d.r X.d.m k (prevN X.P n0 k) n) = true
  len : X.P.length = X.d.m
  lt : X.d.m ≤ 1099511627776
  vars : X.d.v ≤ 65536
  okn : ∀ n ∈ X.P, n.rec4.Ok
def KX.cu (X : KX) (k : Nat) : CuSt := { up := X.up, vars := X.d.v, root := X.d.r, nodes := X.d.m, given := k, last := prevN X.P n0 k, dead := 0, done := false }
def KX.rem (X : KX) (k : Nat) : List R4 := (X.P.drop k).map N3.rec4 ++ X.tl
structure KStp (X : KX) (w : World) (G : Nat → Prop) (s : RSt) (j : Nat) (h : Int) : Prop where
  keep : Keep (fun z => X.G0 z ∨ X.H z) X.Y w
  grow : ∀ z, G z → X.G0 z ∨ X.Y.heap.size ≤ z
  went : Went j h X.s0 s
  off : ∀ z, X.H z → ¬ G z ∧ z < X.Y.heap.size
structure CuK (X : KX) (k : Nat) (w : World) : Prop where mk ::
  out : ∃ G s x q j, KStp X w G s j 0 ∧ q + j ≤ X.Q ∧ CurAt X.c w X.cb X.b G s x (X.cu k) ∧ RdLive X.c X.name 2 X.L (!X.up) x q (X.rem k)
  offE : ∀ z, X.H z → Off X.c.E (fun _ => False) z
section
variable {X : KX} {k : Nat} {w w' : World} {fs : List (ByteArray × AFile)} {G G' : Nat → Prop} {s s' : RSt} {j j2 : Nat} {n : N3} {h1 h2 : Int}

theorem KStp.step (h : KStp X w G s j h1) (t : Stp w G w' G') (hw : Went j2 h2 s s') : KStp X w' G' s' (j2 + j) (h1 + h2) := {
  keep := h.keep.trans t.keep (fun z hz hg => (h.grow z hg).elim .inl (fun e => by omega))
  grow z hz := (t.grow z hz).elim (h.grow z) (fun e => .inr (Nat.le_trans h.keep.size e))
  went := h.went.trans hw
  off z hz := ⟨t.off (Nat.lt_of_lt_of_le (h.off z hz).2 h.keep.size) (h.off z hz).1, (h.off z hz).2⟩ }
theorem KStp.nil (h : KStp X w G s j h1) (k : Keep Nil w w') : KStp X w' G s j h1 := {
  keep := h.keep.trans k (fun _ _ h => h.elim)
  grow := h.grow
  went := h.went
  off := h.off }
theorem KStp.aside (h : KStp X w G s j h1) (k : Keep X.H w w') : KStp X w' G s j h1 := {
  keep := h.keep.trans k (fun _ _ hz => .inr hz)
  grow := h.grow
  went := h.went
  off := h.off }
theorem KStp.beside (h : KStp X w G s j h1) (k : Keep G w w') : Keep (fun z => ¬ X.H z) w w' := k.mono (fun z _ hg hH => (h.off z hH).1 hg)
theorem KX.rem_some (X : KX) (hn : X.P[k]? = some n) : X.rem k = n.rec4 :: X.rem (k + 1) := by
  unfold KX.rem
  obtain ⟨h, e⟩ := List.getElem?_eq_some_iff.1 hn
  rw [List.drop_eq_getElem_cons h, e]
  rfl
theorem prevN_succ {P : List N3} {last : N3} (hn : P[k]? = some n) : prevN P last (k + 1) = n := by
  unfold prevN
  rw [if_neg (by omega), Nat.add_sub_cancel, List.getD_eq_getElem?_getD, hn]
  rfl
theorem CuK.start {x : RdSt} {q : Nat} (hc : CurAt X.c X.Y X.cb X.b X.G0 X.s0 x (X.cu 0)) (hv : RdLive X.c X.name 2 X.L (!X.up) x q (X.rem 0)) (hq : q ≤ X.Q) (hH : ∀ z, X.H z → ¬ X.G0 z ∧ z < X.Y.heap.size) (hE : ∀ z, X.H z → Off X.c.E (fun _ => False) z) : CuK X 0 X.Y :=
  ⟨⟨X.G0, X.s0, x, q, 0, ⟨Keep.refl _ _, fun _ h => .inl h, Went.refl _, hH⟩, by omega, hc, hv⟩, hE⟩
theorem CuK.nil (h : CuK X k w) (kn : Keep Nil w w') : CuK X k w' := by
  obtain ⟨G, s, x, q, j, a, b, d, e⟩ := h.out
  exact ⟨⟨G, s, x, q, j, a.nil kn, b, d.nil kn, e⟩, h.offE⟩
theorem CuK.aside (h : CuK X k w) (kn : Keep X.H w w') : CuK X k w' := by
  obtain ⟨G, s, x, q, j, a, b, d, e⟩ := h.out
  exact ⟨⟨G, s, x, q, j, a.aside kn, b, d.keep kn (fun z hz => ⟨(a.off z hz).1, (h.offE z hz).2⟩), e⟩, h.offE⟩
theorem CuK.keep (h : CuK X k w) : Keep (fun z => X.G0 z ∨ X.H z) X.Y w := by
  obtain ⟨G, s, x, q, j, a, b, d, e⟩ := h.out
  exact a.keep
theorem CuK.next (P : KOk X fs) (h : CuK X k w) (hn : X.P[k]? = some n) :
    Calls Tryz.prog 85 #[.pointer (some ⟨X.cb, 0, none⟩)] w fun e w' => e = .returned (.tuple #[ndV n.self n.low n.high, .bool true, .int .i64 0]) ∧ CuK X (k + 1) w' ∧ Keep (fun z => ¬ X.H z) w w' := by
  obtain ⟨G, s, x, q, j, a, b, d, v⟩ := h.out
  have hk := (List.getElem?_eq_some_iff.1 hn).1
  have hc := P.at_ k n hn
  have hin : 0 < k → sIn (prevN X.P n0 k).self = true := fun h0 => by
    obtain ⟨p, hp⟩ : ∃ p, X.P[k - 1]? = some p := ⟨_, List.getElem?_eq_getElem (by omega)⟩
    have h2 := P.at_ (k - 1) p hp
    have e : prevN X.P n0 k = p := by
      have := prevN_succ (last := n0) hp
      rw [show k - 1 + 1 = k by omega] at this
      exact this
    rw [e]
    simp only [Bool.and_eq_true] at h2
    exact isN_in h2.1
  refine (cnext_rec (y := X.cu k) d v P.tape (a.went.calm P.calm) (X.rem_some hn) rfl rfl (show k < X.d.m by rw [← P.len]; exact hk) P.lt P.vars hin (P.okn n (List.mem_of_getElem? hn)) true hc.symm).mono fun e w1 hq => ?_
  obtain ⟨j1, q1, x1, hj1, hq1, hv1, hcase⟩ := hq
  rcases hcase with ⟨_, he, G1, hc1, st1⟩ | ⟨hf, _⟩
  · refine ⟨he, ⟨⟨G1, _, x1, q1, j1 + j, (a.step st1 (show Went j1 0 s { s with D := s.D.readsN j1 } from ⟨rfl, rfl, rfl, by show s.S.hand = _; omega, rfl, rfl, rfl⟩)), by omega, ?_, hv1⟩, h.offE⟩, a.beside st1.keep⟩
    have e : X.cu (k + 1) = { X.cu k with last := n.rec4.n3, given := k + 1 } := by
      unfold KX.cu
      rw [prevN_succ hn]
      rfl
    rw [e]
    exact hc1
  · cases hf
end
end Go.Proofs.YtadipinnbehhhaaGreatDoor
namespace Go.Proofs.YtadipinnbehhhaaGreatDoor
open Go.RowKit

theorem rcCells_snoc (l : List R4) (r : R4) : rcCells (l ++ [r]) = rcCells l ++ [.int .u64 r.a, .int .u64 r.b, .int .u64 r.c, .int .u64 r.d] := by
  rw [rcCells_app']
  rfl
end Go.Proofs.YtadipinnbehhhaaGreatDoor
namespace Go.Proofs.YtadipinnbehhhaaGreatDoor
open Go.RowKit

def RowV (w : World) (g : Nat) (t : TypeId) (cs : List Value) : Prop := Blk w g t cs.toArray
section
variable {w w' : World} {g : Nat} {t : TypeId} {cs : List Value} {F : Nat → Prop}
theorem RowV.set (h : RowV w g t cs) (i : Nat) (u : Value) : RowV (w.setCell ⟨g, i, none⟩ u) g t (cs.set i u) := by
  have h2 := Blk.set_ h i u
  rw [List.setIfInBounds_toArray] at h2
  exact h2
theorem RowV.at_ (h : RowV w g t cs) {i : Nat} {u : Value} (hi : cs[i]? = some u) : w.cell? ⟨g, i, none⟩ = some u := by
  rw [Blk.at_ h i]
  simpa using hi
theorem RowV.fr (h : RowV w g t cs) (i : Nat) : w.frozen? ⟨g, i, none⟩ = false := Blk.fr h i
theorem RowV.keep (h : RowV w g t cs) (k : Keep F w w') (hn : ¬ F g) : RowV w' g t cs := Blk.keep h k hn
theorem RowV.rd (h : RowV w g t cs) : Rd w (some ⟨g, 0, none⟩) cs := fun j u hu => ⟨_, rfl, by rw [add_at, Nat.zero_add]; exact h.at_ hu⟩
theorem RowV.lt (h : RowV w g t cs) : g < w.heap.size := Blk.lt h
theorem own_full {base n : Nat} (h : w.ownsRow base t 1 (.slice (some ⟨g, 0, none⟩) n n) n cs) (_hc : cs.length = n) : RowV w g t cs := by
  rcases h.2 with ⟨e, _⟩ | ⟨g', cap, cur, e, _, hh, hle, _, hs, ht⟩
  · cases e
  · injection e with e1 e2 e3
    injection e1 with e1
    injection e1 with e1
    subst e1 e3
    have : cur.toList = cs := by
      rw [← ht, List.take_of_length_le]
      rw [Array.length_toList, hs]
      omega
    unfold RowV
    rw [← this]
    exact hh
end
def ints (l : List Int) : List Value := l.map (Value.int .i64)
theorem ints_at {l : List Int} {i : Nat} {x : Int} (h : l[i]? = some x) : (ints l)[i]? = some (.int .i64 x) := by
  unfold ints
  rw [List.getElem?_map, h]
  rfl
theorem ints_set (l : List Int) (i : Nat) (x : Int) : (ints l).set i (.int .i64 x) = ints (l.set i x) := by
  unfold ints
  rw [List.map_set]
theorem info_int9 : (Tryz.prog.info? 3).map (fun i => (i.zero, i.size, i.bytes)) = some (some (.int .i64 0), 1, 8) := by kernel_rfl
def dgV (d : Dg) (A : Option Addr) (cap : Nat) : Value := .agg #[.int .i64 d.v, .int .u64 d.r, .int .i64 d.m, .slice A d.P.length cap]
structure DgAt (w : World) (d : Dg) (A : Option Addr) : Prop where
  rd : Rd w A (ndCells d.P)
  spot : ∀ a, A = some a → a.spot = none
theorem DgAt.nil {w w' : World} {d : Dg} {A : Option Addr} (h : DgAt w d A) (k : Keep Nil w w') : DgAt w' d A := ⟨h.rd.keep k (fun _ _ _ h => h), h.spot⟩
theorem node_lv {d : Dg} (h : InRows d) {n : N3} (hn : n ∈ d.P) : 0 ≤ sL n.self ∧ sL n.self < d.v := by
  have h1 := h.node hn
  unfold isN nOk at h1
  simp only [Bool.and_eq_true, decide_eq_true_eq] at h1
  exact ⟨(sL_lt _).1, h1.1.1.1.1.2⟩
theorem startsN_bd (v : Nat) (P : List N3) : ∀ i, ∀ x ∈ startsN v P i, -1 ≤ x ∧ x ≤ (i : Int)
  | 0, x, hx => by
    unfold startsN at hx
    rw [(List.mem_replicate.1 hx).2]
    omega
  | i + 1, x, hx => by
    have ih := startsN_bd v P i
    unfold startsN at hx
    split at hx
    · have := ih x hx; omega
    · split at hx
      · rcases List.mem_or_eq_of_mem_set hx with h1 | h1
        · have := ih x h1; omega
        · rw [h1]; omega
      · have := ih x hx; omega
set_option maxRecDepth 100000 in
set_option maxHeartbeats 4000000 in
theorem starts_any (d : Dg) (A : Option Addr) (cap : Nat) (w : World) (hd : InRows d) (hr : DgAt w d A) :
    Calls Tryz.prog 96 #[dgV d A cap] w fun e w' => ∃ g, e = .returned (.slice (some ⟨g, 0, none⟩) d.v d.v) ∧ w.heap.size ≤ g ∧ RowV w' g 3 (ints d.starts) ∧ Keep Nil w w' := by
  obtain ⟨i1, hi1, hz0, hz1, hz2⟩ := info_parts info_int9
  obtain ⟨v, hv⟩ : ∃ v, v = d.v := ⟨_, rfl⟩
  obtain ⟨r, hr9⟩ : ∃ r, r = d.r := ⟨_, rfl⟩
  obtain ⟨m, hm⟩ : ∃ m, m = d.m := ⟨_, rfl⟩
  obtain ⟨N, hN⟩ : ∃ N, N = d.P.length := ⟨_, rfl⟩
  obtain ⟨W0, hW0⟩ : ∃ W0, W0 = w.alloc (.cells #[.int .i64 v, .int .u64 r, .int .i64 m, .slice A N cap] 86) := ⟨_, rfl⟩
  have HK0 := Hid.intro_ (show Keep Nil w W0 by rw [hW0]; exact (Keep.refl Nil w).alloc _)
  have HW0S := Hid.intro_ (show W0.heap.size = w.heap.size + 1 by rw [hW0]; simp)
  have HB0 := Hid.intro_ (show Blk W0 w.heap.size 86 #[.int .i64 v, .int .u64 r, .int .i64 m, .slice A N cap] by rw [hW0]; exact Blk.new w _ _)
  have i0w : W0.cell? ⟨w.heap.size, 0, none⟩ = some (.int .i64 v) := HB0.out.at_ 0
  have hvl : v ≤ 65536 := by rw [hv]; exact hd.vars
  have hNl : N ≤ 1099511627776 := by have := hd.len; have := hd.lt; omega
  have HV := Hid.intro_ hv
  have HNN := Hid.intro_ hN
  have HST := Hid.intro_ (show d.starts = startsN v d.P N by unfold Dg.starts; rw [hv, hN, hd.len])
  have HD := Hid.intro_ hd
  have HR := Hid.intro_ hr
  unfold dgV
  rw [← hv, ← hr9, ← hm, ← hN]
  clear hv hr9 hm hN hd hr
  go_enter Tryz.func96, Tryz.ntmps96
  go_upto_region 1 with (fail)
  rw [← hW0]
  clear hW0
  go_wp2_with (at_make; refine wpList_make_full _ rfl _ _ 68 rfl W0.heap.size 3 i1 (.int .i64 0) 1 Tryz.underlying68 hi1 hz0 hz1 .i64 .i64 _ _ v rfl rfl rfl rfl (by rw [hz2]; omega) (by unfold maxLen; omega) (Nat.le_refl _) ?_; intro w1 ho1 k1)
  have hrow : Hid (RowV w1 W0.heap.size 3 (ints (List.replicate v 0))) := Hid.intro_ (by
    have e : (madeCells (Value.int .i64 0).cells (v * 1)).toList = ints (List.replicate v 0) := by
      rw [Nat.mul_one]
      unfold ints
      rw [List.map_replicate]
      exact toList_madeCells_one _ _
    rw [e] at ho1
    exact own_full ho1 (by simp [ints]))
  have HK1 : Hid (Keep Nil W0 w1) := Hid.intro_ ((Keep.of_grown k1).mono (fun _ _ h => by cases h))
  clear ho1 k1
  go_loopw [4] (fun i wr => ∃ (k : Nat) (l : List Int), k ≤ v ∧ i = .int .i64 k ∧ Hid (RowV wr W0.heap.size 3 (ints l)) ∧ Hid (l.length = v ∧ ∀ j, j < k → l[j]? = some (-1)) ∧ Hid (Keep Nil W0 wr)) (fun i _ => v - (intOf i).toNat)
  case atStart => exact ⟨0, _, Nat.zero_le _, rfl, hrow, Hid.intro_ ⟨by simp, fun j hj => by omega⟩, HK1⟩
  case round =>
    obtain ⟨k, l, hkm, rfl, HO, HL, HK⟩ := hrel
    by_cases hlt : k < v
    · have hki : (k : Int) < (v : Int) := by omega
      have hk0 : (0 : Int) ≤ (k : Int) := by omega
      obtain ⟨x, hx⟩ : ∃ x, l[k]? = some x := ⟨_, List.getElem?_eq_getElem (by have := HL.out.1; omega)⟩
      have c0 := HO.out.at_ (ints_at hx)
      have f0 := HO.out.fr k
      clear hx
      go_wp2_with fail
      go_roundw
      case rel =>
        refine ⟨k + 1, l.set k (-1), by omega, by go_num, Hid.intro_ ?_, Hid.intro_ ⟨?_, fun j hj => ?_⟩, Hid.intro_ ?_⟩
        · rw [← ints_set]; exact HO.out.set k _
        · rw [List.length_set]; exact HL.out.1
        · rw [List.getElem?_set]
          have h1 := HL.out.1
          split
          · rw [if_pos (by omega)]
          · exact HL.out.2 j (by omega)
        · exact HK.out.trans ((Keep.refl (fun z => z = W0.heap.size) wr).setCell (p := ⟨W0.heap.size, k, none⟩) (fun _ => rfl) _) (fun b hb e => by have e : b = W0.heap.size := e; omega)
      case measure => simp [intOf]; omega
    · obtain rfl : k = v := by omega
      have hll : l = startsN k d.P 0 := by
        show l = List.replicate k (-1)
        refine List.eq_replicate_iff.2 ⟨HL.out.1, fun b hb => ?_⟩
        obtain ⟨j, hj⟩ := List.getElem?_of_mem hb
        have h1 := (List.getElem?_eq_some_iff.1 hj).1
        have h2 := HL.out.2 j (by have := HL.out.1; omega)
        rw [hj] at h2
        injection h2
      subst hll
      have HL1 := HL
      clear HL
      go_wp2_with fail
      go_loopw [5] (fun i wz => ∃ (q : Nat), q ≤ N ∧ i = .int .i64 q ∧ Hid (RowV wz W0.heap.size 3 (ints (startsN k d.P q))) ∧ Hid (Keep Nil W0 wz)) (fun i _ => N - (intOf i).toNat)
      case atStart => exact ⟨0, Nat.zero_le _, rfl, HO, HK⟩
      case round =>
        obtain ⟨q, hqm, rfl, HO, HK⟩ := hrel
        have bI := HB0.out.keep HK.out (fun h => h)
        have i3 : wr.cell? ⟨w.heap.size, 3, none⟩ = some (.slice A N cap) := bI.at_ 3
        have hbl := bI.lt
        clear bI
        by_cases hlq : q < N
        · obtain ⟨n, hn⟩ : ∃ n, d.P[q]? = some n := ⟨_, List.getElem?_eq_getElem (by have := HNN.out; omega)⟩
          obtain ⟨g, o, hAe, p0, p1, p2⟩ := nd_at (((HR.out.nil HK0.out).nil HK.out).rd) hn HR.out.spot
          subst hAe
          have hmem := List.mem_of_getElem? hn
          have hlv := node_lv HD.out hmem
          obtain ⟨lv, hlv2⟩ : ∃ lv : Nat, sL n.self = (lv : Int) := ⟨(sL n.self).toNat, by omega⟩
          have hlvk : lv < k := by have := HV.out; omega
          have hsp := rsplit_t n.self (by have := (HD.out.okn n hmem).1; omega) wr
          rw [hlv2] at hsp
          have HSP := Hid.intro_ hsp
          have hqi : (q : Int) < (N : Int) := by omega
          have hq0 : (0 : Int) ≤ (q : Int) := by omega
          have hl0 : (0 : Int) ≤ (lv : Int) := by omega
          have hl1 : (lv : Int) < (k : Int) := by omega
          obtain ⟨x, hx⟩ : ∃ x, (startsN k d.P q)[lv]? = some x := ⟨_, List.getElem?_eq_getElem (by rw [startsN_len]; omega)⟩
          have c0 := HO.out.at_ (ints_at hx)
          have f0 := HO.out.fr lv
          have hstep : Hid (startsN k d.P (q + 1) = if sI n.self = 0 then (startsN k d.P q).set lv q else startsN k d.P q) := Hid.intro_ (by
            show (match d.P[q]? with | none => _ | some n => if sI n.self = 0 then _ else _) = _
            rw [hn]
            simp only
            rw [hlv2, Int.toNat_natCast])
          obtain ⟨id, hid⟩ : ∃ id, id = sI n.self := ⟨_, rfl⟩
          rw [← hid] at HSP hstep
          clear hn hx hmem hlv hlv2 hsp hid
          by_cases h0 : id = 0
          · subst h0
            have HS2 := Hid.intro_ (show startsN k d.P (q + 1) = (startsN k d.P q).set lv q by rw [hstep.out, if_pos rfl])
            clear hstep
            go_wp2_with (go_at_call 82; refine HSP.out.mono ?_; rintro e w' ⟨rfl, hw⟩; obtain rfl := hw.symm)
            go_roundw
            case rel =>
              refine ⟨q + 1, by omega, by go_num, Hid.intro_ ?_, Hid.intro_ ?_⟩
              · rw [HS2.out, ← ints_set]; exact HO.out.set lv _
              · exact HK.out.trans ((Keep.refl (fun z => z = W0.heap.size) wr).setCell (p := ⟨W0.heap.size, lv, none⟩) (fun _ => rfl) _) (fun b hb e => by have e : b = W0.heap.size := e; omega)
            case measure => simp [intOf]; omega
          · have HS2 := Hid.intro_ (show startsN k d.P (q + 1) = startsN k d.P q by rw [hstep.out, if_neg h0])
            have hq : (id == 0) = false := by simpa using h0
            clear hstep h0
            go_wp2_with (go_at_call 82; refine HSP.out.mono ?_; rintro e w' ⟨rfl, hw⟩; obtain rfl := hw.symm)
            go_roundw
            case rel => exact ⟨q + 1, by omega, by go_num, Hid.intro_ (by rw [HS2.out]; exact HO.out), HK⟩
            case measure => simp [intOf]; omega
        · obtain rfl : q = N := by omega
          have HX := Hid.intro_ (show RowV wr W0.heap.size 3 (ints d.starts) by rw [HST.out]; exact HO.out)
          have HGS : Hid (w.heap.size ≤ W0.heap.size) := Hid.intro_ (by have := HW0S.out; omega)
          go_wp2_with fail
          go_ret
          exact ⟨_, rfl, HGS.out, HX.out, HK0.out.then_ HK.out⟩
end Go.Proofs.YtadipinnbehhhaaGreatDoor
namespace Go.Proofs.YtadipinnbehhhaaGreatDoor
open Go.RowKit

def boolsV (l : List Bool) : List Value := l.map (Value.bool)
theorem bl_at {w : World} {A : Option Addr} {l : List Bool} (h : Rd w A (boolsV l)) {k : Nat} {x : Bool} (hx : l[k]? = some x) (hs : ∀ a, A = some a → a.spot = none) :
    ∃ g o, A = some ⟨g, o, none⟩ ∧ w.cell? ⟨g, o + k, none⟩ = some (.bool x) := by
  obtain ⟨⟨g, o, sp⟩, rfl, c0⟩ := h k _ (by unfold boolsV; rw [List.getElem?_map, hx]; rfl)
  obtain rfl : sp = none := hs _ rfl
  rw [add_at] at c0
  exact ⟨g, o, rfl, c0⟩
structure AkP (c : Cx) (fs : List (ByteArray × AFile)) (name : ByteArray) (d : Dg) (s : RSt) : Prop where
  tape : TapeOn c fs name 2 (recsD d)
  calm : Calm s.D c.block fs
  ok : DgOk d
  opn : s.S.closed = false
  hand : s.S.hand = 0
  parts : s.S.parts = 0
  lim : 64 * (c.K : Int) ≤ s.S.limit
  K9 : c.K ≤ 65536
section
variable {c : Cx} {w w' : World} {G : Nat → Prop} {s s' : RSt} {fs : List (ByteArray × AFile)} {name : ByteArray} {d : Dg}
theorem AkP.step {j : Nat} (P : AkP c fs name d s) (h : Went j 0 s s') : AkP c fs name d s' :=
  ⟨P.tape, h.calm P.calm, P.ok, by rw [h.closed]; exact P.opn, by rw [h.hand, P.hand]; rfl, by rw [h.parts]; exact P.parts, by rw [h.limit]; exact P.lim, P.K9⟩
theorem AkP.look (P : AkP c fs name d s) (h : RmAt c w G s) : Calls Tryz.prog 26 #[.pointer (some ⟨c.k, 0, none⟩), .string name] w fun e w' => e = .returned (.tuple #[.agg #[.int .i64 d.v, .int .u64 d.r, .int .i64 d.m], .int .i64 0]) ∧ WentTo c G 1 0 s w w' := by
  have := look_any h (LookAns.tape fs (recsD d) P.tape P.calm P.opn (by rw [P.hand]; omega) (by rw [P.hand, P.parts]; have := P.lim; omega))
  rw [P.ok.rows.ends] at this
  exact this
theorem down_ok (P : AkP c fs name d s) : ∀ k n, d.P.reverse[k]? = some n → (n.rec4.isN d.v && fitsB false d.r d.m k (prevN d.P.reverse n0 k) n) = true := by
  intro k n hn
  have h := P.ok.rows.down
  rw [← List.map_reverse] at h
  have := walk_at d.P.reverse 0 n0 h k n hn
  rw [Nat.zero_add] at this
  exact this
end
end Go.Proofs.YtadipinnbehhhaaGreatDoor
namespace Go.Proofs.YtadipinnbehhhaaGreatDoor
open Go.ChangeShapes Go.WideShapes Go.ChangeAt Go.WideMaps Go.WideElems Go.RowKit Go.Deep

structure BlAt (w : World) (v : Value) (l : List Bool) : Prop where mk ::
  out : ∃ B c, v = .slice B l.length c ∧ Rd w B (boolsV l) ∧ (l ≠ [] → ∀ a, B = some a → a.spot = none ∧ a.block < w.heap.size) ∧ l.length ≤ 9223372036854775807
theorem bools_list {W : World} {a : Addr} : ∀ (len : Nat), (∀ i, i < len → ∃ x : Bool, W.cell? (a.add i) = some (.bool x)) →
    ∃ si : List Bool, si.length = len ∧ ∀ (j : Nat) (u : Value), (boolsV si)[j]? = some u → W.cell? (a.add j) = some u
  | 0, _ => ⟨[], rfl, fun j u hu => by simp [boolsV] at hu⟩
  | len + 1, h => by
    obtain ⟨si, h1, h3⟩ := bools_list len (fun i hi => h i (by omega))
    obtain ⟨x, hx⟩ := h len (by omega)
    refine ⟨si ++ [x], by simp [h1], fun j u hu => ?_⟩
    unfold boolsV at hu h3
    rw [List.map_append] at hu
    by_cases hj : j < si.length
    · rw [List.getElem?_append_left (by simpa using hj)] at hu
      exact h3 j u hu
    · rw [List.getElem?_append_right (by simp; omega)] at hu
      have hl := (List.getElem?_eq_some_iff.1 hu).1
      simp at hl
      obtain rfl : j = len := by omega
      simp [h1] at hu
      rw [hx, hu]
theorem rd_blk {W : World} {A : Option Addr} {xs : List Value} (h : Rd W A xs) (hne : xs ≠ []) : ∀ a, A = some a → a.spot = none ∧ a.block < W.heap.size := rd_in h hne
set_option maxRecDepth 100000 in
theorem bools_of {H : Type} {enc : TypeId × Value → H} {W : World} {cs : List Value} {n : Nat} {x : DataW H × List MemPlace} (h : DataW.trod enc Tryz.prog W 0 (fun _ => true) true n 92 cs = some x) :
    ∃ (v : Value) (l : List Bool), cs = [v] ∧ BlAt W v l := by
  rcases open_slice Tryz.underlying92 h with ⟨e, _⟩ | ⟨a, len, cap, m, n', D, Pl, e, _, hl, hmx, hm, _, hi⟩
  · exact ⟨_, [], e, ⟨none, 0, rfl, Rd.nil _ _, fun h => absurd rfl h, by simp⟩⟩
  · have kc1 : Tryz.prog.cellsOf 4 = 1 := by kernel_rfl
    obtain ⟨si, h1, h3⟩ := bools_list (W := W) (a := a) len (fun i hil => by
      obtain ⟨cs', hc, ht⟩ := hi i (by rw [hm]; simp; omega)
      rw [kc1, Nat.mul_one] at hc
      obtain ⟨_, hcl, hat⟩ := World.cells?_some hc
      obtain ⟨y, hy, _⟩ := DataW.trod_bool Tryz.underlying4 ht
      have := hat 0 (by omega)
      rw [hy] at this
      rw [show (a.add i).add 0 = a.add i by rw [Addr.add_add]; rfl] at this
      exact ⟨y, this⟩)
    have hrd : Rd W (some a) (boolsV si) := fun j u hu => ⟨a, rfl, h3 j u hu⟩
    refine ⟨_, si, e, ⟨some a, cap, by rw [h1], hrd, fun hne => rd_blk hrd (fun e => hne (by unfold boolsV at e; simpa using e)), ?_⟩⟩
    rw [h1]
    unfold maxLen at hmx
    omega
end Go.Proofs.YtadipinnbehhhaaGreatDoor
