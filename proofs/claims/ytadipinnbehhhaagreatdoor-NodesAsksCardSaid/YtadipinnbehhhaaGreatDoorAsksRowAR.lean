/- NodesAsks, plain: the diagram of a tape in rows, and what it answers. NodesAsks: what every whole operation looks at first. NodesAsks: a cursor, a reader, under way inside a whole operation. NodesAsks: a diagram as records. -/
import Derived.LoopN
import Derived.Test.YtadipinnbehhhaaGreatDoorAsksRowAP
import Derived.Test.YtadipinnbehhhaaGreatDoorAsksRowAN
import Derived.Test.YtadipinnbehhhaaGreatDoorAsksRowAJ
import Derived.Test.YtadipinnbehhhaaGreatDoorAsksRowAK
namespace Go.Proofs.YtadipinnbehhhaaGreatDoor
open Go.RowKit

/-- A diagram: its levels, its root, how many nodes, its nodes. -/
structure Dg where
  v : Nat
  r : Nat
  m : Nat
  P : List N3
/-- The diagram of a tape, if it is one in rows. -/
def ofL (L : List R4) : Option Dg := match openedL L with
  | none => none
  | some (v, r, m) => if (walkN true v r (m + 1) (L.take m) 0 n0).2 = false ∧ (m = 0 ∨ (lastN (walkN true v r (m + 1) (L.take m) 0 n0).1).self = r) then some ⟨v, r, m, (walkN true v r (m + 1) (L.take m) 0 n0).1⟩ else none
/-- A diagram as records. -/
def recsD (d : Dg) : List R4 := d.P.map N3.rec4 ++ [⟨18446744073709551615, d.v, d.r, d.m⟩]
/-- One node stands ahead of another one: deeper, or of a smaller id. -/
def Later (a b : N3) : Prop := sL b.self < sL a.self ∨ (sL a.self = sL b.self ∧ sI a.self < sI b.self)
theorem Later.trans {a b c : N3} (h : Later a b) (k : Later b c) : Later a c := by
  unfold Later at *
  omega
theorem Later.ne {a b : N3} (h : Later a b) : a.self ≠ b.self := fun e => by
  unfold Later at h
  rw [e] at h
  omega
theorem later_flw {t s : N3} (h : flw t.self t.low t.high s.self s.low s.high = true) : Later s t := by
  unfold flw at h
  unfold Later
  split at h
  · rename_i e
    simp only [Bool.and_eq_true, decide_eq_true_eq] at h
    exact .inr ⟨e.symm, by omega⟩
  · simp only [Bool.and_eq_true, decide_eq_true_eq] at h
    exact .inl h.1
theorem fits_up {r M g : Nat} {last n : N3} (h : fitsB true r M g last n = true) (hg : 0 < g) : flw n.self n.low n.high last.self last.low last.high = true := by
  unfold fitsB at h
  rw [if_neg (by omega)] at h
  simp only [if_true, Bool.and_eq_true] at h
  exact h.1
theorem walk_cons {up : Bool} {v r M g : Nat} {last : N3} {q : R4} {qs : List R4} {P : List N3} (h : walkN up v r M (q :: qs) g last = (P, false)) :
    (q.isN v && fitsB up r M g last q.n3) = true ∧ ∃ P', P = q.n3 :: P' ∧ walkN up v r M qs (g + 1) q.n3 = (P', false) := by
  have e : walkN up v r M (q :: qs) g last = if (q.isN v && fitsB up r M g last q.n3) = true then (q.n3 :: (walkN up v r M qs (g + 1) q.n3).1, (walkN up v r M qs (g + 1) q.n3).2) else ([], true) := rfl
  rw [e] at h
  split at h
  · rename_i hc
    injection h with h1 h2
    exact ⟨hc, _, h1.symm, Prod.ext rfl h2⟩
  · injection h with h1 h2
    cases h2
theorem walk_later {v r M : Nat} : ∀ (qs : List R4) (g : Nat) (last : N3) (P : List N3), 0 < g → walkN true v r M qs g last = (P, false) → List.Pairwise Later (last :: P)
  | [], g, last, P, hg, h => by
    have h : (([], false) : List N3 × Bool) = (P, false) := h
    injection h with h1 h2
    subst h1
    exact List.pairwise_singleton _ _
  | q :: qs, g, last, P, hg, h => by
    obtain ⟨hc, P', rfl, hw⟩ := walk_cons h
    have ih := walk_later qs (g + 1) q.n3 P' (by omega) hw
    simp only [Bool.and_eq_true] at hc
    have h1 := later_flw (fits_up hc.2 hg)
    refine List.pairwise_cons.2 ⟨fun x hx => ?_, ih⟩
    rcases List.mem_cons.1 hx with rfl | hx
    · exact h1
    · exact h1.trans ((List.pairwise_cons.1 ih).1 x hx)
theorem walk_pairs {v r M : Nat} {qs : List R4} {last : N3} {P : List N3} (h : walkN true v r M qs 0 last = (P, false)) : List.Pairwise Later P := by
  cases qs with
  | nil =>
    have h : (([], false) : List N3 × Bool) = (P, false) := h
    injection h with h1 h2
    subst h1
    exact List.Pairwise.nil
  | cons q qs =>
    obtain ⟨hc, P', rfl, hw⟩ := walk_cons h
    exact walk_later qs 1 q.n3 P' (by omega) hw
theorem isN_d {q : R4} {v : Nat} (h : q.isN v = true) : q = N3.rec4 q.n3 := by
  unfold R4.isN isN at h
  simp only [Bool.and_eq_true, decide_eq_true_eq] at h
  have hd := h.1.1.1.2
  cases q
  simp only at hd
  subst hd
  rfl
theorem walk_recs {up : Bool} {v r M : Nat} : ∀ (qs : List R4) (g : Nat) (last : N3) (P : List N3), walkN up v r M qs g last = (P, false) → qs = P.map N3.rec4 ∧ ∀ n ∈ P, isN n.self n.low n.high 0 v = true
  | [], g, last, P, h => by
    have h : (([], false) : List N3 × Bool) = (P, false) := h
    injection h with h1 h2
    subst h1
    exact ⟨rfl, fun n hn => by simp at hn⟩
  | q :: qs, g, last, P, h => by
    obtain ⟨hc, P', rfl, hw⟩ := walk_cons h
    obtain ⟨e, hn⟩ := walk_recs qs (g + 1) q.n3 P' hw
    simp only [Bool.and_eq_true] at hc
    have hq := isN_d hc.1
    refine ⟨by rw [e, List.map_cons, ← hq], fun n hm => ?_⟩
    rcases List.mem_cons.1 hm with rfl | hm
    · have h2 := hc.1
      unfold R4.isN at h2
      have hd : q.d = 0 := by rw [hq]; rfl
      rw [hd] at h2
      exact h2
    · exact hn n hm
/-- The end's root, asked or not. -/
theorem walk_root {v r : Nat} : ∀ (qs : List R4) (g m : Nat) (last : N3) (P : List N3), g + qs.length = m → walkN true v r (m + 1) qs g last = (P, false) → (qs = [] ∨ (lastN P).self = r) → walkN true v r m qs g last = (P, false)
  | [], g, m, last, P, hg, h, hr => h
  | q :: qs, g, m, last, P, hg, h, hr => by
    obtain ⟨hc, P', rfl, hw⟩ := walk_cons h
    simp only [List.length_cons] at hg
    have hP : P'.length = qs.length := by
      have := (walk_recs _ _ _ _ hw).1
      rw [this, List.length_map]
    have ih := walk_root qs (g + 1) m q.n3 P' (by omega) hw (by
      cases qs with
      | nil => exact .inl rfl
      | cons a b =>
        rcases hr with hr | hr
        · cases hr
        · right
          cases P' with
          | nil => simp at hP
          | cons x y =>
            unfold lastN at *
            rw [List.getLastD_cons] at hr
            rw [List.getLastD_cons] at hr ⊢
            exact hr)
    have e : walkN true v r m (q :: qs) g last = if (q.isN v && fitsB true r m g last q.n3) = true then (q.n3 :: (walkN true v r m qs (g + 1) q.n3).1, (walkN true v r m qs (g + 1) q.n3).2) else ([], true) := rfl
    rw [e, if_pos, ih]
    simp only [Bool.and_eq_true] at hc ⊢
    refine ⟨hc.1, ?_⟩
    have h2 := hc.2
    unfold fitsB at h2 ⊢
    simp only [Bool.and_eq_true, Bool.or_eq_true, decide_eq_true_eq, if_true] at h2 ⊢
    refine ⟨h2.1, ?_⟩
    rcases Nat.lt_or_ge (g + 1) m with h3 | h3
    · exact .inl h3
    · right
      have hq : qs = [] := List.eq_nil_of_length_eq_zero (by omega)
      rcases hr with hr | hr
      · cases hr
      · have hP0 : P' = [] := List.eq_nil_of_length_eq_zero (by rw [hP, hq]; rfl)
        subst hP0
        exact hr
/-- A diagram in rows. -/
structure InRows (d : Dg) : Prop where
  len : d.P.length = d.m
  lt : d.m < 1099511627776
  vars : d.v ≤ 65536
  rootlt : d.r < 18446744073709551616
  rows : walkN true d.v d.r (d.m + 1) (d.P.map N3.rec4) 0 n0 = (d.P, false)
  isE : isE 18446744073709551615 d.v d.r d.m = true
  root : 0 < d.m → (lastN d.P).self = d.r
  okn : ∀ n ∈ d.P, n.self < 18446744073709551616 ∧ n.low < 18446744073709551616 ∧ n.high < 18446744073709551616
section
variable {d : Dg} {L : List R4}
theorem ofL_rows (h : ofL L = some d) (hl : L.length ≤ 1099511627776) (ho : ∀ r ∈ L, r.Ok) : InRows d ∧ L = recsD d := by
  unfold ofL at h
  cases hop : openedL L with
  | none => rw [hop] at h; cases h
  | some p =>
    obtain ⟨v, r, m⟩ := p
    rw [hop] at h
    simp only at h
    split at h
    · rename_i hc
      injection h with h
      subst h
      unfold openedL at hop
      cases hE : endL L with
      | none => rw [hE] at hop; cases hop
      | some p =>
        obtain ⟨v', r', m'⟩ := p
        rw [hE] at hop
        simp only at hop
        split at hop
        · rename_i hn
          injection hop with hop
          injection hop with h1 h2
          injection h2 with h2 h3
          subst h1 h2 h3
          obtain ⟨hv, hm, x, rest, hrev, hb, hcc, hd, hisE⟩ := endL_some' hE
          have hLr : L = rest.reverse ++ [x] := by
            have := congrArg List.reverse hrev
            rw [List.reverse_reverse, List.reverse_cons] at this
            exact this
          have hrl : rest.reverse.length = m' := by
            have := congrArg List.length hLr
            rw [List.length_append, hn] at this
            simp only [List.length_singleton] at this
            omega
          have htake : L.take m' = rest.reverse := by rw [hLr, ← hrl, List.take_left']; rfl
          obtain ⟨P, hP⟩ : ∃ P, P = (walkN true v' r' (m' + 1) (L.take m') 0 n0).1 := ⟨_, rfl⟩
          have hw : walkN true v' r' (m' + 1) (L.take m') 0 n0 = (P, false) := Prod.ext hP.symm hc.1
          rw [hw] at hc
          rw [hw]
          rw [htake] at hw
          obtain ⟨e1, hn1⟩ := walk_recs _ _ _ _ hw
          have hx : x = ⟨18446744073709551615, v', r', m'⟩ := by
            have ha := hisE
            unfold Go.Proofs.YtadipinnbehhhaaGreatDoor.isE at ha
            simp only [Bool.and_eq_true, decide_eq_true_eq] at ha
            cases x
            simp only at hb hcc hd ha
            rw [ha.1.1.1, hb, hcc, hd]
          have hxo : x.Ok := ho x (by rw [hLr]; simp)
          refine ⟨⟨?_, by show m' < _; omega, hv, by show r' < _; rw [← hcc]; exact hxo.c, ?_, ?_, fun hm0 => ?_, fun n hn => ?_⟩, ?_⟩
          · show P.length = m'
            rw [← hrl, e1, List.length_map]
          · show walkN true v' r' (m' + 1) (P.map N3.rec4) 0 n0 = (P, false)
            rw [← e1]; exact hw
          · show Go.Proofs.YtadipinnbehhhaaGreatDoor.isE 18446744073709551615 v' r' m' = true
            rw [hx] at hisE
            exact hisE
          · rcases hc.2 with h0 | h0
            · have hm0 : 0 < m' := hm0
              omega
            · exact h0
          · obtain ⟨k, hk⟩ := List.getElem?_of_mem hn
            have hk2 : rest.reverse[k]? = some n.rec4 := by rw [e1, List.getElem?_map, hk]; rfl
            have hok := ho n.rec4 (by rw [hLr]; exact List.mem_append_left _ (List.mem_of_getElem? hk2))
            exact ⟨hok.a, hok.b, hok.c⟩
          · rw [hLr, hx]
            show rest.reverse ++ _ = P.map N3.rec4 ++ _
            rw [e1]
        · cases hop
    · cases h
theorem recsD_len (d : Dg) : (recsD d).length = d.P.length + 1 := by simp [recsD]
theorem recsD_take (h : d.P.length = d.m) : (recsD d).take d.m = d.P.map N3.rec4 := by
  unfold recsD
  rw [← h, List.take_left']
  simp
theorem InRows.ends (h : InRows d) : endL (recsD d) = some (d.v, d.r, d.m) := by
  unfold endL recsD
  rw [List.reverse_append]
  simp only [List.reverse_cons, List.reverse_nil, List.nil_append, List.singleton_append]
  rw [if_pos h.isE]
theorem InRows.opens (h : InRows d) : openedL (recsD d) = some (d.v, d.r, d.m) := by
  unfold openedL
  rw [h.ends]
  simp only
  rw [if_pos (by rw [recsD_len, h.len])]
theorem InRows.of_ (h : InRows d) : ofL (recsD d) = some d := by
  have hc : d.m = 0 ∨ (lastN d.P).self = d.r := (Nat.eq_zero_or_pos d.m).elim .inl (fun h0 => .inr (h.root h0))
  unfold ofL
  rw [h.opens]
  simp only
  rw [recsD_take h.len, h.rows, if_pos ⟨rfl, hc⟩]
theorem InRows.full (h : InRows d) : walkN true d.v d.r d.m (d.P.map N3.rec4) 0 n0 = (d.P, false) := by
  refine walk_root _ 0 d.m n0 d.P (by rw [List.length_map, h.len]; omega) h.rows ?_
  rcases Nat.eq_zero_or_pos d.m with h0 | h0
  · left
    rw [← h.len] at h0
    rw [List.eq_nil_of_length_eq_zero h0]; rfl
  · exact .inr (h.root h0)
theorem InRows.pairs (h : InRows d) : List.Pairwise Later d.P := walk_pairs h.rows
theorem InRows.node (h : InRows d) {n : N3} (hn : n ∈ d.P) : isN n.self n.low n.high 0 d.v = true := (walk_recs _ _ _ _ h.rows).2 n hn
theorem InRows.inn (h : InRows d) {n : N3} (hn : n ∈ d.P) : sIn n.self = true := isN_in (h.node hn)
theorem InRows.oks (h : InRows d) : ∀ r ∈ recsD d, r.Ok := by
  intro r hr
  rcases List.mem_append.1 hr with h1 | h1
  · obtain ⟨n, hn, rfl⟩ := List.mem_map.1 h1
    obtain ⟨a, b, c⟩ := h.okn n hn
    exact ⟨a, b, c, Nat.succ_pos _⟩
  · rw [List.mem_singleton.1 h1]
    have h2 := h.lt
    exact ⟨Nat.lt_succ_self 18446744073709551615, by show d.v < _; have := h.vars; omega, h.rootlt, by show d.m < _; omega⟩
/-- Two places with one pointer are one place. -/
theorem InRows.uniq (h : InRows d) {i j : Nat} {a b : N3} (ha : d.P[i]? = some a) (hb : d.P[j]? = some b) (e : a.self = b.self) : i = j := by
  obtain ⟨hi, ea⟩ := List.getElem?_eq_some_iff.1 ha
  obtain ⟨hj, eb⟩ := List.getElem?_eq_some_iff.1 hb
  rcases Nat.lt_trichotomy i j with h1 | h1 | h1
  · have := List.pairwise_iff_getElem.1 h.pairs i j hi hj h1
    rw [ea, eb] at this
    exact absurd e this.ne
  · exact h1
  · have := List.pairwise_iff_getElem.1 h.pairs j i hj hi h1
    rw [ea, eb] at this
    exact absurd e.symm this.ne
end

/-- The leaf true over three levels. -/
def leafD : Dg := ⟨3, 9223372036854775809, 0, []⟩
theorem leaf_rows : InRows leafD := ⟨rfl, by decide, by decide, by decide, rfl, by decide, fun h => absurd h (by decide), fun n hn => by simp [leafD] at hn⟩
/-- Where each level's nodes begin, i nodes looked at. -/
def startsN (v : Nat) (P : List N3) : Nat → List Int
  | 0 => List.replicate v (-1)
  | i + 1 => match P[i]? with
    | none => startsN v P i
    | some n => if sI n.self = 0 then (startsN v P i).set (sL n.self).toNat i else startsN v P i
theorem startsN_len (v : Nat) (P : List N3) : ∀ i, (startsN v P i).length = v
  | 0 => by simp [startsN]
  | i + 1 => by
    unfold startsN
    split
    · exact startsN_len v P i
    · split
      · rw [List.length_set]; exact startsN_len v P i
      · exact startsN_len v P i
def Dg.starts (d : Dg) : List Int := startsN d.v d.P d.m
/-- What is asked for as the starts are known: the place, or -1. -/
def findL (d : Dg) (S : List Int) (p : Nat) : Int :=
  if nOk p d.v = true then
    (let s := S.getD (sL p).toNat 0
     if s < 0 ∨ (d.P.length : Int) < sI p then -1 else if (d.P.length : Int) ≤ s + sI p then -1 else if ((d.P.map (·.self)).getD (s + sI p).toNat 0) = p then s + sI p else -1)
  else -1
/-- Whom the nodes point to is there. -/
def ClosedD (d : Dg) : Prop := ∀ n ∈ d.P, (sF n.low = true ∨ 0 ≤ findL d d.starts n.low) ∧ (sF n.high = true ∨ 0 ≤ findL d d.starts n.high)
/-- A well-formed diagram. -/
structure DgOk (d : Dg) : Prop where
  rows : InRows d
  closed : ClosedD d
theorem leaf_ok : DgOk leafD := ⟨leaf_rows, fun n hn => by simp [leafD] at hn⟩
section
variable {d : Dg} {S : List Int} {p : Nat}
theorem sI_nn (p : Nat) : 0 ≤ sI p := by
  unfold sI
  split <;> omega
theorem findL_some (h : 0 ≤ findL d S p) : ∃ (i : Nat) (n : N3), findL d S p = i ∧ d.P[i]? = some n ∧ n.self = p ∧ nOk p d.v = true := by
  obtain ⟨f, hf⟩ : ∃ f, f = findL d S p := ⟨_, rfl⟩
  rw [← hf] at h ⊢
  unfold findL at hf
  split at hf
  · rename_i hn
    simp only at hf
    split at hf
    · omega
    · rename_i h1
      split at hf
      · omega
      · rename_i h2
        split at hf
        · rename_i h3
          have hi := sI_nn p
          obtain ⟨i, hi2⟩ : ∃ i : Nat, S.getD (sL p).toNat 0 + sI p = (i : Int) := ⟨(S.getD (sL p).toNat 0 + sI p).toNat, by omega⟩
          rw [hi2] at h2 h3 hf
          rw [Int.toNat_natCast] at h3
          have hlt : i < d.P.length := by omega
          refine ⟨i, d.P[i], hf, List.getElem?_eq_getElem hlt, ?_, hn⟩
          rw [← h3, List.getD_eq_getElem?_getD, List.getElem?_map, List.getElem?_eq_getElem hlt]
          rfl
        · omega
  · omega
/-- The root is there. -/
theorem InRows.find_root (h : InRows d) (hm : 0 < d.m) : 0 ≤ findL d d.starts d.r := by
  have hlast := h.root hm
  obtain ⟨n, hn, hl, hmem⟩ := lastN_at h.len hm
  rw [hl] at hlast
  have hE := h.isE
  unfold Go.Proofs.YtadipinnbehhhaaGreatDoor.isE at hE
  simp only [Bool.and_eq_true, decide_eq_true_eq] at hE
  have hin := h.inn hmem
  rw [hlast] at hin
  have hsf : sF d.r = false := by
    unfold sIn at hin
    simp only [Bool.and_eq_true, Bool.not_eq_true'] at hin
    exact hin.1
  have h3 := hE.2
  rw [hsf] at h3
  simp only [Bool.false_eq_true, if_false, Bool.and_eq_true, decide_eq_true_eq] at h3
  have hi0 := h3.1.2
  have hsl := sL_lt d.r
  have hlv : sL d.r < d.v := by
    have := h3.1.1
    unfold nOk at this
    simp only [Bool.and_eq_true, decide_eq_true_eq] at this
    exact this.2
  have hs : d.starts = (startsN d.v d.P (d.m - 1)).set (sL d.r).toNat ((d.m - 1 : Nat) : Int) := by
    unfold Dg.starts
    obtain ⟨k, hk⟩ : ∃ k, d.m = k + 1 := ⟨d.m - 1, by omega⟩
    rw [hk] at hn ⊢
    simp only [Nat.add_sub_cancel] at hn ⊢
    show (match d.P[k]? with | none => _ | some n => if sI n.self = 0 then _ else _) = _
    rw [hn]
    simp only
    rw [hlast, if_pos hi0]
  have hg : d.starts.getD (sL d.r).toNat 0 = ((d.m - 1 : Nat) : Int) := by
    rw [hs, List.getD_eq_getElem?_getD, List.getElem?_set_self (by rw [startsN_len]; omega)]
    rfl
  have e : findL d d.starts d.r = ((d.m - 1 : Nat) : Int) := by
    unfold findL
    rw [if_pos h3.1.1, hg, hi0]
    have hlen := h.len
    simp only
    rw [if_neg (by omega), if_neg (by omega), if_pos, Int.add_zero]
    rw [Int.add_zero, Int.toNat_natCast, List.getD_eq_getElem?_getD, List.getElem?_map, hn]
    exact hlast
  rw [e]
  omega
/-- A pointer that leads on. -/
def Leads (d : Dg) (p : Nat) : Prop := sF p = true ∨ 0 ≤ findL d d.starts p
theorem DgOk.root (h : DgOk d) : Leads d d.r := by
  rcases Nat.eq_zero_or_pos d.m with h0 | h0
  · left
    have hE := h.rows.isE
    unfold Go.Proofs.YtadipinnbehhhaaGreatDoor.isE at hE
    simp only [Bool.and_eq_true, decide_eq_true_eq] at hE
    have h3 := hE.2
    split at h3
    · assumption
    · simp only [Bool.and_eq_true, decide_eq_true_eq] at h3
      omega
  · exact .inr (h.rows.find_root h0)
/-- What a diagram answers from a pointer on. -/
def evalN (P : List N3) (bits : List Bool) : Nat → Nat → Bool
  | 0, p => sV p
  | f + 1, p => if sF p = true then sV p else match P.find? (fun n => n.self == p) with
    | none => false
    | some n => evalN P bits f (if bits.getD (sL p).toNat false = true then n.high else n.low)
def Dg.eval (d : Dg) (bits : List Bool) : Bool := evalN d.P bits 65537 d.r
theorem evalN_leaf (P : List N3) (bits : List Bool) (f : Nat) (h : sF p = true) : evalN P bits f p = sV p := by
  cases f with
  | zero => rfl
  | succ f => show (if sF p = true then _ else _) = _; rw [if_pos h]
theorem InRows.find_at (h : InRows d) {i : Nat} {n : N3} (hn : d.P[i]? = some n) : d.P.find? (fun x => x.self == n.self) = some n := by
  cases hf : d.P.find? (fun x => x.self == n.self) with
  | none =>
    have := List.find?_eq_none.1 hf n (List.mem_of_getElem? hn)
    simp at this
  | some x =>
    have h1 := List.find?_some hf
    obtain ⟨j, hj⟩ := List.getElem?_of_mem (List.mem_of_find?_eq_some hf)
    have e : x.self = n.self := by simpa using h1
    have := h.uniq hj hn e
    subst this
    rw [hj] at hn
    exact hn
/-- A step. -/
theorem InRows.eval_step (h : InRows d) {i : Nat} {n : N3} (hn : d.P[i]? = some n) (bits : List Bool) (f : Nat) :
    evalN d.P bits (f + 1) n.self = evalN d.P bits f (if bits.getD (sL n.self).toNat false = true then n.high else n.low) := by
  have hin := h.inn (List.mem_of_getElem? hn)
  have hs : ¬ sF n.self = true := by
    unfold sIn at hin
    simp only [Bool.and_eq_true, Bool.not_eq_true'] at hin
    rw [hin.1]; simp
  show (if sF n.self = true then _ else _) = _
  rw [if_neg hs, h.find_at hn]
theorem rU_level {p : Nat} {l n : Int} (h : rU p l n = true) (hs : sF p = false) : l < sL p := by
  unfold rU at h
  rw [hs] at h
  simp only [Bool.false_or, Bool.and_eq_true, decide_eq_true_eq] at h
  exact h.2
/-- The child that a truth takes. -/
def kid (bits : List Bool) (n : N3) : Nat := if bits.getD (sL n.self).toNat false = true then n.high else n.low
theorem DgOk.kid_leads (h : DgOk d) {n : N3} (hn : n ∈ d.P) (bits : List Bool) : Leads d (kid bits n) := by
  unfold kid
  split
  · exact (h.closed n hn).2
  · exact (h.closed n hn).1
theorem InRows.kid_level (h : InRows d) {n : N3} (hn : n ∈ d.P) (bits : List Bool) (hs : sF (kid bits n) = false) : sL n.self < sL (kid bits n) := by
  have hN := h.node hn
  unfold isN at hN
  simp only [Bool.and_eq_true] at hN
  unfold kid at *
  split
  · rename_i hb
    rw [if_pos hb] at hs
    exact rU_level hN.2 hs
  · rename_i hb
    rw [if_neg hb] at hs
    exact rU_level hN.1.2 hs
theorem InRows.kid_lt (h : InRows d) {n : N3} (hn : n ∈ d.P) (bits : List Bool) : kid bits n < 18446744073709551616 := by
  obtain ⟨_, a, b⟩ := h.okn n hn
  unfold kid
  split
  · exact b
  · exact a
/-- The child stands ahead of the node. -/
theorem InRows.kid_before (h : InRows d) {i j : Nat} {n x : N3} (hn : d.P[i]? = some n) (bits : List Bool) (hx : d.P[j]? = some x) (hs : sF (kid bits n) = false) (e : x.self = kid bits n) : j < i := by
  have hl := h.kid_level (List.mem_of_getElem? hn) bits hs
  rw [← e] at hl
  obtain ⟨hi, ea⟩ := List.getElem?_eq_some_iff.1 hn
  obtain ⟨hj, eb⟩ := List.getElem?_eq_some_iff.1 hx
  rcases Nat.lt_trichotomy i j with h1 | h1 | h1
  · have := List.pairwise_iff_getElem.1 h.pairs i j hi hj h1
    rw [ea, eb] at this
    unfold Later at this
    omega
  · subst h1
    rw [hn] at hx
    injection hx with hx
    subst hx
    omega
  · exact h1
/-- How many nodes the widest level has. -/
def widthN (P : List N3) : Nat → Int
  | 0 => 0
  | i + 1 => match P[i]? with
    | none => widthN P i
    | some n => max (widthN P i) (sI n.self + 1)
def Dg.width (d : Dg) : Int := widthN d.P d.m
theorem widthN_bd (P : List N3) : ∀ i, 0 ≤ widthN P i ∧ widthN P i ≤ 1099511627776
  | 0 => by simp [widthN]
  | i + 1 => by
    have ih := widthN_bd P i
    unfold widthN
    split
    · exact ih
    · rename_i n hn
      have h1 := sI_nn n.self
      have h2 : sI n.self < 1099511627776 := by
        unfold sI
        split <;> omega
      omega
end
/-- The node ahead of a place. -/
def prevN (P : List N3) (last : N3) (k : Nat) : N3 := if k = 0 then last else P.getD (k - 1) n0
theorem walk_of {up : Bool} {v r M : Nat} : ∀ (P : List N3) (g : Nat) (last : N3), (∀ k n, P[k]? = some n → (n.rec4.isN v && fitsB up r M (g + k) (prevN P last k) n) = true) → walkN up v r M (P.map N3.rec4) g last = (P, false)
  | [], g, last, h => rfl
  | n :: P, g, last, h => by
    have h0 := h 0 n rfl
    have ih := walk_of P (g + 1) n (fun k x hx => by
      have h1 := h (k + 1) x (by simpa using hx)
      rw [show g + (k + 1) = g + 1 + k by omega] at h1
      have e : prevN (n :: P) last (k + 1) = prevN P n k := by
        unfold prevN
        rw [if_neg (by omega), Nat.add_sub_cancel]
        cases k with
        | zero => rfl
        | succ k => rw [if_neg (by omega), Nat.add_sub_cancel]; rfl
      rw [e] at h1
      exact h1)
    have e : walkN up v r M ((n :: P).map N3.rec4) g last = if (n.rec4.isN v && fitsB up r M g last n.rec4.n3) = true then (n.rec4.n3 :: (walkN up v r M (P.map N3.rec4) (g + 1) n.rec4.n3).1, (walkN up v r M (P.map N3.rec4) (g + 1) n.rec4.n3).2) else ([], true) := rfl
    have h0' : (n.rec4.isN v && fitsB up r M g last n.rec4.n3) = true := h0
    rw [e, if_pos h0', show n.rec4.n3 = n from rfl, ih]
theorem walk_at {up : Bool} {v r M : Nat} : ∀ (P : List N3) (g : Nat) (last : N3), walkN up v r M (P.map N3.rec4) g last = (P, false) → ∀ k n, P[k]? = some n → (n.rec4.isN v && fitsB up r M (g + k) (prevN P last k) n) = true
  | [], g, last, h, k, n, hn => by simp at hn
  | x :: P, g, last, h, k, n, hn => by
    obtain ⟨hc, P', e1, hw⟩ := walk_cons h
    have e2 : x.rec4.n3 = x := rfl
    rw [e2] at hc e1 hw
    injection e1 with _ e1
    subst e1
    cases k with
    | zero =>
      simp only [List.getElem?_cons_zero, Option.some.injEq] at hn
      subst hn
      exact hc
    | succ k =>
      have ih := walk_at P (g + 1) x hw k n (by simpa using hn)
      rw [show g + (k + 1) = g + 1 + k by omega]
      have e : prevN (x :: P) last (k + 1) = prevN P x k := by
        unfold prevN
        rw [if_neg (by omega), Nat.add_sub_cancel]
        cases k with
        | zero => rfl
        | succ k => rw [if_neg (by omega), Nat.add_sub_cancel]; rfl
      rw [e]
      exact ih
section
variable {d : Dg}
/-- What a cursor upwards asks of each node. -/
theorem InRows.up_at (h : InRows d) {k : Nat} {n : N3} (hn : d.P[k]? = some n) : (n.rec4.isN d.v && fitsB true d.r d.m k (prevN d.P n0 k) n) = true := by
  have := walk_at d.P 0 n0 h.full k n hn
  rw [Nat.zero_add] at this
  exact this
/-- A cursor downwards. -/
theorem InRows.down (h : InRows d) : walkN false d.v d.r d.m ((d.P.map N3.rec4).reverse) 0 n0 = (d.P.reverse, false) := by
  rw [← List.map_reverse]
  refine walk_of _ 0 n0 (fun k n hn => ?_)
  have hlen := h.len
  have hk : k < d.P.length := by
    have := (List.getElem?_eq_some_iff.1 hn).1
    rw [List.length_reverse] at this
    exact this
  rw [List.getElem?_reverse hk] at hn
  have hu := h.up_at hn
  simp only [Bool.and_eq_true] at hu ⊢
  refine ⟨hu.1, ?_⟩
  rw [Nat.zero_add]
  have hu2 := hu.2
  unfold fitsB at hu2 ⊢
  simp only [Bool.and_eq_true, Bool.or_eq_true, decide_eq_true_eq, Bool.false_eq_true, if_false, if_true] at hu2 ⊢
  refine ⟨?_, ?_⟩
  · rcases Nat.eq_zero_or_pos k with h0 | h0
    · rw [if_pos h0]
      subst h0
      rcases hu2.2 with h2 | h2
      · omega
      · exact decide_eq_true h2
    · rw [if_neg (by omega)]
      obtain ⟨x, hx⟩ : ∃ x, d.P[d.P.length - k]? = some x := ⟨_, List.getElem?_eq_getElem (by omega)⟩
      have hux := h.up_at hx
      simp only [Bool.and_eq_true] at hux
      have hf := fits_up hux.2 (by omega)
      have e1 : prevN d.P n0 (d.P.length - k) = n := by
        unfold prevN
        rw [if_neg (by omega), List.getD_eq_getElem?_getD, show d.P.length - k - 1 = d.P.length - 1 - k by omega, hn]
        rfl
      have e2 : prevN d.P.reverse n0 k = x := by
        unfold prevN
        rw [if_neg (by omega), List.getD_eq_getElem?_getD, List.getElem?_reverse (by omega), show d.P.length - 1 - (k - 1) = d.P.length - k by omega, hx]
        rfl
      rw [e1] at hf
      rw [e2]
      exact hf
  · rcases Nat.lt_or_ge (k + 1) d.m with h2 | h2
    · exact .inl h2
    · right
      have h3 := hu2.1
      rw [if_pos (by omega)] at h3
      simpa using h3
/-- The same records: the same diagram. -/
theorem recsD_inj {d e : Dg} (h : InRows d) (k : InRows e) (he : recsD d = recsD e) : d = e := by
  have h1 := h.of_
  rw [he, k.of_] at h1
  injection h1 with h1
  exact h1.symm
end
/-- Under way to the answer. -/
structure EvI (d : Dg) (bits : List Bool) (p f : Nat) : Prop where
  eq : evalN d.P bits f p = d.eval bits
  fuel : sF p = false → 65537 ≤ sL p + f
  leads : Leads d p
  lt : p < 18446744073709551616
section
variable {d : Dg} {bits : List Bool} {p f : Nat}
theorem EvI.start (h : DgOk d) : EvI d bits d.r 65537 := ⟨rfl, fun _ => by have := sL_lt d.r; omega, h.root, h.rows.rootlt⟩
theorem EvI.ends (h : EvI d bits p f) (hs : sF p = true) : d.eval bits = sV p := by rw [← h.eq, evalN_leaf _ _ _ hs]
theorem EvI.at_ (h : EvI d bits p f) (hs : sF p = false) : ∃ (i : Nat) (n : N3), d.P[i]? = some n ∧ n.self = p ∧ findL d d.starts p = (i : Int) ∧ nOk p d.v = true := by
  rcases h.leads with h1 | h1
  · rw [hs] at h1; cases h1
  · obtain ⟨i, n, e, hn, hp, ho⟩ := findL_some h1
    exact ⟨i, n, hn, hp, e, ho⟩
theorem EvI.step (h : EvI d bits p f) (ok : DgOk d) (hs : sF p = false) {i : Nat} {n : N3} (hn : d.P[i]? = some n) (hp : n.self = p) : EvI d bits (kid bits n) (f - 1) ∧ (sF (kid bits n) = false → ∃ j x, j < i ∧ d.P[j]? = some x ∧ x.self = kid bits n) := by
  have hm := List.mem_of_getElem? hn
  have hfu := h.fuel hs
  have hl := sL_lt p
  obtain ⟨f', hf⟩ : ∃ f', f = f' + 1 := ⟨f - 1, by omega⟩
  subst hf
  have he := h.eq
  rw [← hp, ok.rows.eval_step hn] at he
  refine ⟨⟨he, fun hk => ?_, ok.kid_leads hm bits, ok.rows.kid_lt hm bits⟩, fun hk => ?_⟩
  · have := ok.rows.kid_level hm bits hk
    rw [hp] at this
    have e : f' + 1 - 1 = f' := rfl
    rw [e]
    omega
  · rcases ok.kid_leads hm bits with h1 | h1
    · rw [hk] at h1; cases h1
    · obtain ⟨j, x, _, hx, hxp, _⟩ := findL_some h1
      exact ⟨j, x, ok.rows.kid_before hn bits hx hk hxp, hx, hxp⟩
end
end Go.Proofs.YtadipinnbehhhaaGreatDoor
namespace Go.Proofs.YtadipinnbehhhaaGreatDoor
open Go.RowKit

section
variable {c : Cx} {w w' : World} {b : Nat} {G : Nat → Prop} {s s' : RSt} {fs : List (ByteArray × AFile)} {name name2 : ByteArray} {L L2 : List R4}

theorem sealed_rm (h : RmAt c w G s) (t : TapeOn c fs name 2 L) (hc : Calm s.D c.block fs) :
    Calls Tryz.prog 202 #[.pointer (some ⟨c.k, 0, none⟩), .string name] w fun e w' => e = .returned (.tuple #[.int .i64 ((blocksB 2 L c.block).length : Int), .int .i64 0]) ∧ Keep Nil w w' := by
  obtain ⟨F, rfl, hd⟩ := h.out
  have := sealed_any F c.E c.d c.p c.lk c.k c.of s.D s.S c.K s.next name w hd
  rw [t.readable hc] at this
  exact this
theorem on_rm (h : RmAt c w G s) (hc : Calm s.D c.block fs) :
    Calls Tryz.prog 86 #[.pointer (some ⟨c.d, 0, none⟩)] w fun e w' => e = .returned (.bool true) ∧ w' = w := by
  obtain ⟨F, rfl, hd⟩ := h.out
  obtain ⟨R, hD⟩ := hd.disk
  have := on_any c.d s.D R F w hD
  rw [hc.on] at this
  exact this
theorem desk_rm (h : RmAt c w G s) : w.cell? ⟨c.k, 0, none⟩ = some (.pointer (some ⟨c.d, 0, none⟩)) ∧ w.cell? ⟨c.k, 1, none⟩ = some (.pointer (some ⟨c.p, 0, none⟩)) := by
  obtain ⟨F, rfl, hd⟩ := h.out
  exact ⟨hd.desk.at_ 0, hd.desk.at_ 1⟩
theorem frees_rm (h : RmAt c w G s) :
    Calls Tryz.prog 126 #[.pointer (some ⟨c.p, 0, none⟩)] w fun e w' => e = .returned (.int .i64 s.S.frees) ∧ RmTo c G s w w' := by
  obtain ⟨F, rfl, hd⟩ := h.out
  exact (frees_dk hd).mono fun e w' ⟨he, ht⟩ => ⟨he, h.step ht rfl⟩
set_option maxRecDepth 100000 in
set_option maxHeartbeats 2000000 in
/-- Ready at one tape. -/
theorem ready1 (g : Nat) (h : RmAt c w G s) (hc : Calm s.D c.block fs) (t : TapeOn c fs name 2 L) (hg : w.cell? ⟨g, 0, none⟩ = some (.string name)) :
    Calls Tryz.prog 161 #[.pointer (some ⟨c.k, 0, none⟩), .slice (some ⟨g, 0, none⟩) 1 1, .slice none 0 0] w fun e w' => e = .returned (.int .i64 0) ∧ Keep Nil w w' := by
  obtain ⟨c0, c1⟩ := desk_rm h
  have HON := Hid.intro_ (on_rm h hc)
  have HSE := Hid.intro_ (sealed_rm h t hc)
  clear h hc t
  go_enter Tryz.func161, Tryz.ntmps161
  go_wp2_with (go_at_call 86; refine HON.out.mono ?_; rintro e w' ⟨rfl, hw⟩; obtain rfl := hw.symm)
  refine wp_loop_rounds 1 ?_
  rw [rounds_succ]
  go_wp2_with fail
  refine wp_loop_rounds 2 ?_
  rw [rounds_succ]
  go_wp2_with (go_at_call 202; refine HSE.out.mono ?_; rintro e w1 ⟨rfl, k1⟩)
  rw [rounds_succ]
  go_wp2_with fail
  go_ret
  exact ⟨rfl, k1⟩
set_option maxRecDepth 100000 in
set_option maxHeartbeats 2000000 in
/-- Ready at two tapes. -/
theorem ready2 (g : Nat) (h : RmAt c w G s) (hc : Calm s.D c.block fs) (t : TapeOn c fs name 2 L) (t2 : TapeOn c fs name2 2 L2) (hg : w.cell? ⟨g, 0, none⟩ = some (.string name)) (hg2 : w.cell? ⟨g, 1, none⟩ = some (.string name2)) :
    Calls Tryz.prog 161 #[.pointer (some ⟨c.k, 0, none⟩), .slice (some ⟨g, 0, none⟩) 2 2, .slice none 0 0] w fun e w' => e = .returned (.int .i64 0) ∧ Keep Nil w w' := by
  obtain ⟨c0, c1⟩ := desk_rm h
  have HON := Hid.intro_ (on_rm h hc)
  have HSE := Hid.intro_ (sealed_rm h t hc)
  have HS2 := Hid.intro_ (fun W (k : Keep Nil w W) => sealed_rm (h.nil k) t2 hc)
  clear h hc t t2
  go_enter Tryz.func161, Tryz.ntmps161
  go_wp2_with (go_at_call 86; refine HON.out.mono ?_; rintro e w' ⟨rfl, hw⟩; obtain rfl := hw.symm)
  refine wp_loop_rounds 1 ?_
  rw [rounds_succ]
  go_wp2_with fail
  refine wp_loop_rounds 3 ?_
  rw [rounds_succ]
  go_wp2_with (go_at_call 202; refine HSE.out.mono ?_; rintro e w1 ⟨rfl, k1⟩
               have hg2' := cell_keep hg2 k1 (fun h => h))
  rw [rounds_succ]
  go_wp2_with (go_at_call 202; refine (HS2.out w1 k1).mono ?_; rintro e w2 ⟨rfl, k2⟩)
  rw [rounds_succ]
  go_wp2_with fail
  go_ret
  exact ⟨rfl, k1.then_ k2⟩
set_option maxRecDepth 100000 in
set_option maxHeartbeats 2000000 in
/-- A whole operation may begin. -/
theorem begins_ok (g n : Nat) (h : RmAt c w G s) (hc : Calm s.D c.block fs) (hf : 64 * (c.K : Int) ≤ s.S.frees) (hK : c.K ≤ 65536)
    (hr : Calls Tryz.prog 161 #[.pointer (some ⟨c.k, 0, none⟩), .slice (some ⟨g, 0, none⟩) n n, .slice none 0 0] w fun e w' => e = .returned (.int .i64 0) ∧ Keep Nil w w') :
    Calls Tryz.prog 91 #[.pointer (some ⟨c.k, 0, none⟩), .slice (some ⟨g, 0, none⟩) n n] w fun e w' => e = .returned (.int .i64 0) ∧ RmTo c G s w w' := by
  obtain ⟨c0, c1⟩ := desk_rm h
  have HON := Hid.intro_ (on_rm h hc)
  have HR := Hid.intro_ hr
  have HH := Hid.intro_ h
  obtain ⟨fr, hfr⟩ : ∃ fr, fr = s.S.frees := ⟨_, rfl⟩
  have hwm : wrap64 (64 * (c.K : Int)) = 64 * (c.K : Int) := wrap_low _ (by omega)
  rw [← hfr] at hf
  have hlt : ¬ fr < 64 * (c.K : Int) := by omega
  have HF := Hid.intro_ hfr
  clear h hc hr hfr hf
  go_enter Tryz.func91, Tryz.ntmps91
  go_wp2_with (first
    | (go_at_call 86; refine HON.out.mono ?_; rintro e w' ⟨rfl, hw⟩; obtain rfl := hw.symm)
    | (go_at_call 161; refine HR.out.mono ?_; rintro e w1 ⟨rfl, k1⟩
       have c0' := cell_keep c0 k1 (fun h => h)
       have c1' := cell_keep c1 k1 (fun h => h))
    | (go_at_call 126; refine (frees_rm (HH.out.nil k1)).mono ?_; rw [← HF.out]; rintro e w2 ⟨rfl, t2⟩)
    | (go_at_call 61; obtain ⟨G2, h2, s2⟩ := id t2; refine (room_k h2).mono ?_; rintro e w' ⟨rfl, hw⟩; obtain rfl := hw.symm)
    | (go_at_call 160; go_in)
    | (go_at_call 162; go_in))
  go_ret
  exact ⟨rfl, t2.from_nil k1⟩
end
end Go.Proofs.YtadipinnbehhhaaGreatDoor
namespace Go.Proofs.YtadipinnbehhhaaGreatDoor
open Go.RowKit

/-- What does not turn of it. -/
structure KX where
  c : Cx
  name : ByteArray
  L : List R4
  up : Bool
  d : Dg
  P : List N3
  tl : List R4
  cb : Nat
  b : Nat
  G0 : Nat → Prop
  s0 : RSt
  H : Nat → Prop
  Y : World
  Q : Nat
/-- What holds ahead of it. -/
structure KOk (X : KX) (fs : List (ByteArray × AFile)) : Prop where
  tape : TapeOn X.c fs X.name 2 X.L
  calm : Calm X.s0.D X.c.block fs
  at_ : ∀ k n, X.P[k]? = some n → (n.rec4.isN X.d.v && fitsB X.up X.d.r X.d.m k (prevN X.P n0 k) n) = true
  len : X.P.length = X.d.m
  lt : X.d.m ≤ 1099511627776
  vars : X.d.v ≤ 65536
  okn : ∀ n ∈ X.P, n.rec4.Ok
/-- A cursor of which k nodes are taken. -/
def KX.cu (X : KX) (k : Nat) : CuSt := { up := X.up, vars := X.d.v, root := X.d.r, nodes := X.d.m, given := k, last := prevN X.P n0 k, dead := 0, done := false }
/-- What is left of the tape. -/
def KX.rem (X : KX) (k : Nat) : List R4 := (X.P.drop k).map N3.rec4 ++ X.tl
/-- What has turned since the begin. -/
structure KStp (X : KX) (w : World) (G : Nat → Prop) (s : RSt) (j : Nat) (h : Int) : Prop where
  keep : Keep (fun z => X.G0 z ∨ X.H z) X.Y w
  grow : ∀ z, G z → X.G0 z ∨ X.Y.heap.size ≤ z
  went : Went j h X.s0 s
  off : ∀ z, X.H z → ¬ G z ∧ z < X.Y.heap.size
structure CuK (X : KX) (k : Nat) (w : World) : Prop where mk ::
  out : ∃ G s x q j, KStp X w G s j 0 ∧ q + j ≤ X.Q ∧ CurAt X.c w X.cb X.b G s x (X.cu k) ∧ RdLive X.c X.name 2 X.L (!X.up) x q (X.rem k)
  offE : ∀ z, X.H z → Off X.c.E (fun _ => False) z
structure RdK (X : KX) (rem : List R4) (w : World) : Prop where mk ::
  out : ∃ G s x q j, KStp X w G s j 0 ∧ q + j ≤ X.Q ∧ RdrAt X.c w X.b G s x ∧ RdLive X.c X.name 2 X.L (!X.up) x q rem
/-- It is over: the reader has given back its records. -/
structure DnK (X : KX) (w : World) : Prop where mk ::
  out : ∃ G s j, KStp X w G s j (-(X.c.K : Int)) ∧ j ≤ X.Q ∧ RmAt X.c w G s
section
variable {X : KX} {k : Nat} {w w' : World} {fs : List (ByteArray × AFile)} {G G' : Nat → Prop} {s s' : RSt} {j j2 : Nat} {n : N3} {h1 h2 : Int}

theorem KStp.step (h : KStp X w G s j h1) (t : Stp w G w' G') (hw : Went j2 h2 s s') : KStp X w' G' s' (j2 + j) (h1 + h2) := {
  keep := h.keep.trans t.keep (fun z hz hg => (h.grow z hg).elim .inl (fun e => by omega))
  grow z hz := (t.grow z hz).elim (h.grow z) (fun e => .inr (Nat.le_trans h.keep.size e))
  went := h.went.trans hw
  off z hz := ⟨t.off (Nat.lt_of_lt_of_le (h.off z hz).2 h.keep.size) (h.off z hz).1, (h.off z hz).2⟩ }
theorem KStp.nil (h : KStp X w G s j h1) (k : Keep Nil w w') : KStp X w' G s j h1 := {
  keep := h.keep.trans k (fun _ _ h => h.elim)
  grow := h.grow
  went := h.went
  off := h.off }
theorem KStp.less (h : KStp X w G s j h1) (hs : ∀ z, G' z → G z) : KStp X w G' s j h1 := {
  keep := h.keep
  grow z hz := h.grow z (hs z hz)
  went := h.went
  off z hz := ⟨fun hg => (h.off z hz).1 (hs z hg), (h.off z hz).2⟩ }
/-- The other blocks turned. -/
theorem KStp.aside (h : KStp X w G s j h1) (k : Keep X.H w w') : KStp X w' G s j h1 := {
  keep := h.keep.trans k (fun _ _ hz => .inr hz)
  grow := h.grow
  went := h.went
  off := h.off }
/-- The other blocks stand where the reader's turn. -/
theorem KStp.beside (h : KStp X w G s j h1) (k : Keep G w w') : Keep (fun z => ¬ X.H z) w w' := k.mono (fun z _ hg hH => (h.off z hH).1 hg)
theorem KX.rem_some (X : KX) (hn : X.P[k]? = some n) : X.rem k = n.rec4 :: X.rem (k + 1) := by
  unfold KX.rem
  obtain ⟨h, e⟩ := List.getElem?_eq_some_iff.1 hn
  rw [List.drop_eq_getElem_cons h, e]
  rfl
theorem KX.rem_end (X : KX) (h : X.P.length ≤ k) : X.rem k = X.tl := by
  unfold KX.rem
  rw [List.drop_eq_nil_of_le h]
  rfl
theorem prevN_succ {P : List N3} {last : N3} (hn : P[k]? = some n) : prevN P last (k + 1) = n := by
  unfold prevN
  rw [if_neg (by omega), Nat.add_sub_cancel, List.getD_eq_getElem?_getD, hn]
  rfl
theorem CuK.start {x : RdSt} {q : Nat} (hc : CurAt X.c X.Y X.cb X.b X.G0 X.s0 x (X.cu 0)) (hv : RdLive X.c X.name 2 X.L (!X.up) x q (X.rem 0)) (hq : q ≤ X.Q) (hH : ∀ z, X.H z → ¬ X.G0 z ∧ z < X.Y.heap.size) (hE : ∀ z, X.H z → Off X.c.E (fun _ => False) z) : CuK X 0 X.Y :=
  ⟨⟨X.G0, X.s0, x, q, 0, ⟨Keep.refl _ _, fun _ h => .inl h, Went.refl _, hH⟩, by omega, hc, hv⟩, hE⟩
theorem CuK.nil (h : CuK X k w) (kn : Keep Nil w w') : CuK X k w' := by
  obtain ⟨G, s, x, q, j, a, b, d, e⟩ := h.out
  exact ⟨⟨G, s, x, q, j, a.nil kn, b, d.nil kn, e⟩, h.offE⟩
theorem CuK.aside (h : CuK X k w) (kn : Keep X.H w w') : CuK X k w' := by
  obtain ⟨G, s, x, q, j, a, b, d, e⟩ := h.out
  exact ⟨⟨G, s, x, q, j, a.aside kn, b, d.keep kn (fun z hz => ⟨(a.off z hz).1, (h.offE z hz).2⟩), e⟩, h.offE⟩
theorem CuK.keep (h : CuK X k w) : Keep (fun z => X.G0 z ∨ X.H z) X.Y w := by
  obtain ⟨G, s, x, q, j, a, b, d, e⟩ := h.out
  exact a.keep
theorem RdK.keep {rem : List R4} (h : RdK X rem w) : Keep (fun z => X.G0 z ∨ X.H z) X.Y w := by
  obtain ⟨G, s, x, q, j, a, b, d, e⟩ := h.out
  exact a.keep
theorem RdK.nil {rem : List R4} (h : RdK X rem w) (kn : Keep Nil w w') : RdK X rem w' := by
  obtain ⟨G, s, x, q, j, a, b, d, e⟩ := h.out
  exact ⟨G, s, x, q, j, a.nil kn, b, d.nil kn, e⟩
theorem DnK.keep (h : DnK X w) : Keep (fun z => X.G0 z ∨ X.H z) X.Y w := by
  obtain ⟨G, s, j, a, _⟩ := h.out
  exact a.keep
theorem CuK.rd (h : CuK X k w) : RdK X (X.rem k) w := by
  obtain ⟨G, s, x, q, j, a, b, d, e⟩ := h.out
  obtain ⟨G1, hr, hs, _⟩ := d.via
  exact ⟨G1, s, x, q, j, a.less hs, b, hr, e⟩
/-- The next node. -/
theorem CuK.next (P : KOk X fs) (h : CuK X k w) (hn : X.P[k]? = some n) :
    Calls Tryz.prog 85 #[.pointer (some ⟨X.cb, 0, none⟩)] w fun e w' => e = .returned (.tuple #[ndV n.self n.low n.high, .bool true, .int .i64 0]) ∧ CuK X (k + 1) w' ∧ Keep (fun z => ¬ X.H z) w w' := by
  obtain ⟨G, s, x, q, j, a, b, d, v⟩ := h.out
  have hk := (List.getElem?_eq_some_iff.1 hn).1
  have hc := P.at_ k n hn
  have hin : 0 < k → sIn (prevN X.P n0 k).self = true := fun h0 => by
    obtain ⟨p, hp⟩ : ∃ p, X.P[k - 1]? = some p := ⟨_, List.getElem?_eq_getElem (by omega)⟩
    have h2 := P.at_ (k - 1) p hp
    have e : prevN X.P n0 k = p := by
      have := prevN_succ (last := n0) hp
      rw [show k - 1 + 1 = k by omega] at this
      exact this
    rw [e]
    simp only [Bool.and_eq_true] at h2
    exact isN_in h2.1
  refine (cnext_rec (y := X.cu k) d v P.tape (a.went.calm P.calm) (X.rem_some hn) rfl rfl (show k < X.d.m by rw [← P.len]; exact hk) P.lt P.vars hin (P.okn n (List.mem_of_getElem? hn)) true hc.symm).mono fun e w1 hq => ?_
  obtain ⟨j1, q1, x1, hj1, hq1, hv1, hcase⟩ := hq
  rcases hcase with ⟨_, he, G1, hc1, st1⟩ | ⟨hf, _⟩
  · refine ⟨he, ⟨⟨G1, _, x1, q1, j1 + j, (a.step st1 (show Went j1 0 s { s with D := s.D.readsN j1 } from ⟨rfl, rfl, rfl, by show s.S.hand = _; omega, rfl, rfl, rfl⟩)), by omega, ?_, hv1⟩, h.offE⟩, a.beside st1.keep⟩
    have e : X.cu (k + 1) = { X.cu k with last := n.rec4.n3, given := k + 1 } := by
      unfold KX.cu
      rw [prevN_succ hn]
      rfl
    rw [e]
    exact hc1
  · cases hf
/-- None is left. -/
theorem CuK.last (_P : KOk X fs) (h : CuK X X.d.m w) :
    Calls Tryz.prog 85 #[.pointer (some ⟨X.cb, 0, none⟩)] w fun e w' => e = .returned (.tuple #[ndV 0 0 0, .bool false, .int .i64 0]) ∧ CuK X X.d.m w' ∧ Keep (fun z => ¬ X.H z) w w' := by
  obtain ⟨G, s, x, q, j, a, b, d, v⟩ := h.out
  refine (cnext_none 0 d rfl (.inr ⟨rfl, rfl, rfl⟩)).mono fun e w1 ⟨he, G1, hc1, st1⟩ => ⟨he, ⟨⟨G1, s, x, q, 0 + j, a.step st1 (Went.refl s), by omega, hc1, v⟩, h.offE⟩, a.beside st1.keep⟩
/-- The next record. -/
theorem RdK.next {r : R4} {rest : List R4} (P : KOk X fs) (h : RdK X (r :: rest) w) :
    Calls Tryz.prog 102 #[.pointer (some ⟨X.b, 0, none⟩)] w fun e w' => e = .returned (.tuple #[r.val, .bool true, .int .i64 0]) ∧ RdK X rest w' ∧ Keep (fun z => ¬ X.H z) w w' := by
  obtain ⟨G, s, x, q, j, a, b, d, v⟩ := h.out
  refine (next_live d v P.tape (a.went.calm P.calm) rfl).mono fun e w1 ⟨he, hq⟩ => ⟨he, ?_⟩
  obtain ⟨j1, q1, x1, hj1, hq1, hv1, G1, hc1, st1⟩ := hq.out
  exact ⟨⟨G1, _, x1, q1, j1 + j, (a.step st1 (show Went j1 0 s { s with D := s.D.readsN j1 } from ⟨rfl, rfl, rfl, by show s.S.hand = _; omega, rfl, rfl, rfl⟩)), by omega, hc1, hv1⟩, a.beside st1.keep⟩
theorem RdK.last (h : RdK X [] w) :
    Calls Tryz.prog 102 #[.pointer (some ⟨X.b, 0, none⟩)] w fun e w' => e = .returned (.tuple #[zero4, .bool false, .int .i64 0]) ∧ RdK X [] w' ∧ Keep (fun z => ¬ X.H z) w w' := by
  obtain ⟨G, s, x, q, j, a, b, d, v⟩ := h.out
  refine (next_end d v rfl).mono fun e w1 ⟨he, G1, hc1, st1⟩ => ⟨he, ⟨⟨G1, s, x, q, 0 + j, a.step st1 (Went.refl s), by omega, hc1, v⟩⟩, a.beside st1.keep⟩
/-- It is closed behind the body. -/
theorem RdK.close {rem : List R4} (u : FrameMode) (h : RdK X rem w) (hcl : X.s0.S.closed = false) (hh : (X.c.K : Int) ≤ X.s0.S.hand) :
    CallsD Tryz.prog 93 #[.pointer (some ⟨X.b, 0, none⟩)] u w fun e u' w' => u' = u ∧ (e = .returned (.int .i64 0) ∧ DnK X w' ∧ Keep (fun z => ¬ X.H z) w w') := by
  obtain ⟨G, s, x, q, j, a, b, d, v⟩ := h.out
  have hrc := rclose_d X.c w X.b G s x u d
  rw [v.closes] at hrc
  refine hrc.mono fun e u' w1 ⟨hu, he, t⟩ => ⟨hu, he, ?_⟩
  obtain ⟨G1, hr1, st1⟩ := t.rm
  exact ⟨⟨G1, _, 0 + j, (a.step st1 (Went.give (K := X.c.K) s (by rw [a.went.closed]; exact hcl) (by rw [a.went.hand]; omega))) |> (fun h => by rw [Int.zero_add] at h; exact h), by omega, hr1⟩, a.beside st1.keep⟩
end
end Go.Proofs.YtadipinnbehhhaaGreatDoor
namespace Go.Proofs.YtadipinnbehhhaaGreatDoor
open Go.RowKit

theorem rcCells_snoc (l : List R4) (r : R4) : rcCells (l ++ [r]) = rcCells l ++ [.int .u64 r.a, .int .u64 r.b, .int .u64 r.c, .int .u64 r.d] := by
  rw [rcCells_app']
  rfl
theorem take_snoc {P : List N3} {k : Nat} {n : N3} (h : P[k]? = some n) : P.take (k + 1) = P.take k ++ [n] := by
  rw [List.take_add_one, h]
  rfl
set_option maxRecDepth 100000 in
set_option maxHeartbeats 4000000 in
theorem recs_any (v r m : Nat) (P : List N3) (A : Option Addr) (cap : Nat) (w : World) (hr : Rd w A (ndCells P)) (hs : ∀ a, A = some a → a.spot = none) (hl : P.length ≤ 1099511627776) (hv : v < 9223372036854775808) (hm : m < 9223372036854775808) :
    Calls Tryz.prog 34 #[.agg #[.int .i64 v, .int .u64 r, .int .i64 m, .slice A P.length cap]] w fun e w' => ∃ u, e = .returned u ∧ w'.ownsRow (w.heap.size + 1) 111 4 u (P.length + 1) (rcCells (P.map N3.rec4 ++ [⟨18446744073709551615, v, r, m⟩])) ∧ Keep Nil w w' := by
  obtain ⟨i1, hi1, hy0, hy1, hy2⟩ := info_parts info_rec
  obtain ⟨W0, hW0⟩ : ∃ W0, W0 = w.alloc (.cells #[.int .i64 v, .int .u64 r, .int .i64 m, .slice A P.length cap] 86) := ⟨_, rfl⟩
  have HK0 := Hid.intro_ (show Keep Nil w W0 by rw [hW0]; exact (Keep.refl Nil w).alloc _)
  have HW0S := Hid.intro_ (show W0.heap.size = w.heap.size + 1 by rw [hW0]; simp)
  have HB0 := Hid.intro_ (show Blk W0 w.heap.size 86 #[.int .i64 v, .int .u64 r, .int .i64 m, .slice A P.length cap] by rw [hW0]; exact Blk.new w _ _)
  have HR := Hid.intro_ hr
  have HS := Hid.intro_ hs
  have HEND := Hid.intro_ (fun W => end_any v m r hv hm W)
  have HREC := Hid.intro_ (fun (n : N3) W => rec_any n.self n.low n.high W)
  obtain ⟨N, hN⟩ : ∃ N, N = P.length := ⟨_, rfl⟩
  rw [← hN] at hl HB0 hW0 ⊢
  have HN := Hid.intro_ hN
  unfold rcV ndV at *
  clear hr hs hv hm hN
  go_enter Tryz.func34, Tryz.ntmps34
  go_upto_region 1 with (fail)
  rw [← hW0]
  clear hW0
  go_wp2_with fail
  go_loopw [3, 4] (fun a i wr => ∃ (k : Nat), k ≤ N ∧ i = .int .i64 k ∧ Hid (wr.ownsRow (w.heap.size + 1) 111 4 a k (rcCells ((P.take k).map N3.rec4))) ∧ Hid (Keep Nil W0 wr)) (fun _ i _ => N - (intOf i).toNat)
  case atStart => exact ⟨0, Nat.zero_le _, rfl, Hid.intro_ (World.ownsRow_nil _ _ _ _), Hid.intro_ (Keep.refl _ _)⟩
  case round =>
    obtain ⟨k, hkm, rfl, HO, HK⟩ := hrel
    have bI := HB0.out.keep HK.out (fun h => h)
    have i0 : wr.cell? ⟨w.heap.size, 0, none⟩ = some (.int .i64 v) := bI.at_ 0
    have i1' : wr.cell? ⟨w.heap.size, 1, none⟩ = some (.int .u64 r) := bI.at_ 1
    have i2 : wr.cell? ⟨w.heap.size, 2, none⟩ = some (.int .i64 m) := bI.at_ 2
    have i3 : wr.cell? ⟨w.heap.size, 3, none⟩ = some (.slice A N cap) := bI.at_ 3
    have hbl := bI.lt
    clear bI
    obtain ⟨A9, c9, hav⟩ := own_form HO.out
    subst hav
    by_cases hlt : k < N
    · obtain ⟨n, hn⟩ : ∃ n, P[k]? = some n := ⟨_, List.getElem?_eq_getElem (by have := HN.out; omega)⟩
      obtain ⟨g, o, hAe, p0, p1, p2⟩ := nd_at (((HR.out.keep HK0.out (fun _ _ _ h => h)).keep HK.out (fun _ _ _ h => h))) hn HS.out
      subst hAe
      have HNN := Hid.intro_ hn
      have hki : (k : Int) < (N : Int) := by omega
      have hk0 : (0 : Int) ≤ (k : Int) := by omega
      clear hn
      go_wp2_with (first
        | (go_at_call 89; refine (HREC.out n _).mono ?_; rintro e w3 ⟨rfl, k3⟩
           have K3 := Hid.intro_ k3
           have b3 := HB0.out.keep (HK.out.then_ k3) (fun h => h)
           have i0 : w3.cell? ⟨w.heap.size, 0, none⟩ = some (.int .i64 v) := b3.at_ 0
           have i1' : w3.cell? ⟨w.heap.size, 1, none⟩ = some (.int .u64 r) := b3.at_ 1
           have i2 : w3.cell? ⟨w.heap.size, 2, none⟩ = some (.int .i64 m) := b3.at_ 2
           have i3 : w3.cell? ⟨w.heap.size, 3, none⟩ = some (.slice (some ⟨g, o, none⟩) N cap) := b3.at_ 3
           have hsz3 := k3.size
           clear k3 b3)
        | (at_builtin; refine wpList_append_own_at _ rfl (.tmp 20) (.tmp 22) 47 rfl (w.heap.size + 1) 111 i1 (.agg #[.int .u64 0, .int .u64 0, .int .u64 0, .int .u64 0]) 4 32 Tryz.underlying47 hi1 hy0 hy1 hy2 rfl (by decide) (.slice A9 k c9) k (rcCells ((P.take k).map N3.rec4)) (by simp [Act.eval]) (own_keep HO.out ((K3.out.alloc _).alloc _) (fun g _ h => h)) ⟨w3.heap.size + 1, 0, none⟩ 1 1 [.int .u64 n.self, .int .u64 n.low, .int .u64 n.high, .int .u64 0] (by simp [Act.eval]) rfl (news_new (by simp)) (by simp [Value.oneCell']) (by unfold maxLen; omega) (by omega) (by simp; omega) ?_; intro s1 w4 ho4 k4 _ hs1))
      have hfin : Hid (w4.ownsRow (w.heap.size + 1) 111 4 s1 (k + 1) (rcCells ((P.take (k + 1)).map N3.rec4))) := Hid.intro_ (by
        rw [take_snoc HNN.out, List.map_append, List.map_cons, List.map_nil, rcCells_snoc]
        exact ho4)
      have kfin : Hid (Keep Nil W0 w4) := Hid.intro_ ((((HK.out.then_ K3.out).alloc _).alloc _).trans (Keep.of_grown k4) (fun b hb e => by have := own_base HO.out e; have := HW0S.out; omega))
      go_roundw
      case rel => exact ⟨k + 1, by omega, by go_num, hfin, kfin⟩
      case measure => simp [intOf]; omega
    · obtain rfl : k = N := by omega
      go_wp2_with (first
        | (go_at_call 90; refine (HEND.out _).mono ?_; rintro e w3 ⟨rfl, k3⟩
           have K3 := Hid.intro_ k3
           have hsz3 := k3.size
           clear k3)
        | (at_builtin; refine wpList_append_own_at _ rfl (.tmp 27) (.tmp 29) 47 rfl (w.heap.size + 1) 111 i1 (.agg #[.int .u64 0, .int .u64 0, .int .u64 0, .int .u64 0]) 4 32 Tryz.underlying47 hi1 hy0 hy1 hy2 rfl (by decide) (.slice A9 k c9) k (rcCells ((P.take k).map N3.rec4)) (by simp [Act.eval]) (own_keep HO.out ((K3.out.alloc _).alloc _) (fun g _ h => h)) ⟨w3.heap.size + 1, 0, none⟩ 1 1 [.int .u64 18446744073709551615, .int .u64 v, .int .u64 r, .int .u64 m] (by simp [Act.eval]) rfl (news_new (by simp)) (by simp [Value.oneCell']) (by unfold maxLen; omega) (by omega) (by simp; omega) ?_; intro s1 w4 ho4 k4 _ hs1))
      have hfin : w4.ownsRow (w.heap.size + 1) 111 4 s1 (k + 1) (rcCells (P.map N3.rec4 ++ [⟨18446744073709551615, v, r, m⟩])) := by
        rw [rcCells_snoc]
        have e : P.take k = P := List.take_of_length_le (by rw [HN.out]; exact Nat.le_refl _)
        rw [e] at ho4
        exact ho4
      have kfin : Keep Nil w w4 := HK0.out.then_ ((((HK.out.then_ K3.out).alloc _).alloc _).trans (Keep.of_grown k4) (fun b hb e => by have := own_base HO.out e; have := HW0S.out; omega))
      go_ret
      exact ⟨_, rfl, hfin, kfin⟩
end Go.Proofs.YtadipinnbehhhaaGreatDoor
