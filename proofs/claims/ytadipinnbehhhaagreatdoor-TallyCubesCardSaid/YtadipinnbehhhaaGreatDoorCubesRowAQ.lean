/- Parts of the proof: RowP RowQ FnW Bits. -/
import Derived.Test.YtadipinnbehhhaaGreatDoorCubesRowAP
import Derived.Test.YtadipinnbehhhaaGreatDoorCubesRowAO
import Derived.Test.YtadipinnbehhhaaGreatDoorCubesRowAB
namespace Go.Proofs.YtadipinnbehhhaaGreatDoor
open Go.RowKit

abbrev P2 := Nat × Nat
def P2.lt (a b : P2) : Prop := a.1 < b.1 ∨ (a.1 = b.1 ∧ a.2 < b.2)
instance (a b : P2) : Decidable (P2.lt a b) := by unfold P2.lt; exact inferInstance
theorem ltP {a b c : P2} (h : P2.lt a b) (k : P2.lt b c) : P2.lt a c := by unfold P2.lt at *; omega
theorem P2.irr (a : P2) : ¬ P2.lt a a := by unfold P2.lt; omega
theorem P2.tri (a b : P2) : P2.lt a b ∨ a = b ∨ P2.lt b a := by
  obtain ⟨a1, a2⟩ := a
  obtain ⟨b1, b2⟩ := b
  unfold P2.lt
  simp only [Prod.mk.injEq]
  omega
def insP (x : P2) : List P2 → List P2
  | [] => [x]
  | a :: l => if P2.lt x a then x :: a :: l else if x = a then a :: l else a :: insP x l
def sortP : List P2 → List P2
  | [] => []
  | a :: l => insP a (sortP l)
def RiseP (l : List P2) : Prop := List.Pairwise P2.lt l
theorem insP_mem {x y : P2} : ∀ {l : List P2}, y ∈ insP x l ↔ y = x ∨ y ∈ l
  | [] => by simp [insP]
  | a :: l => by
    unfold insP
    split
    · simp
    · split
      · rename_i e
        subst e
        simp
      · simp only [List.mem_cons, insP_mem (l := l)]
        constructor
        · rintro (h | h | h)
          · exact .inr (.inl h)
          · exact .inl h
          · exact .inr (.inr h)
        · rintro (h | h | h)
          · exact .inr (.inl h)
          · exact .inl h
          · exact .inr (.inr h)
theorem insP_rise {x : P2} : ∀ {l : List P2}, RiseP l → RiseP (insP x l)
  | [], _ => List.pairwise_singleton _ _
  | a :: l, h => by
    have h1 := List.pairwise_cons.1 h
    unfold insP
    split
    · rename_i hlt
      refine List.pairwise_cons.2 ⟨fun y hy => ?_, h⟩
      rcases List.mem_cons.1 hy with rfl | hy
      · exact hlt
      · exact ltP hlt (h1.1 y hy)
    · rename_i hlt
      split
      · exact h
      · rename_i hne
        refine List.pairwise_cons.2 ⟨fun y hy => ?_, insP_rise h1.2⟩
        rcases insP_mem.1 hy with rfl | hy
        · rcases P2.tri y a with h2 | h2 | h2
          · exact absurd h2 hlt
          · exact absurd h2 hne
          · exact h2
        · exact h1.1 y hy
theorem sortP_rise : ∀ l, RiseP (sortP l)
  | [] => List.Pairwise.nil
  | _ :: l => insP_rise (sortP_rise l)
theorem sortP_mem {y : P2} : ∀ {l : List P2}, y ∈ sortP l ↔ y ∈ l
  | [] => by simp [sortP]
  | a :: l => by
    unfold sortP
    rw [insP_mem, sortP_mem (l := l), List.mem_cons]
theorem insP_len (x : P2) : ∀ l, (insP x l).length ≤ l.length + 1
  | [] => by simp [insP]
  | a :: l => by
    unfold insP
    split
    · simp
    · split
      · simp
      · simp [insP_len x l]
theorem sortP_len : ∀ l, (sortP l).length ≤ l.length
  | [] => Nat.le_refl _
  | a :: l => by
    unfold sortP
    have h1 := insP_len a (sortP l)
    have h2 := sortP_len l
    simp only [List.length_cons]
    omega
theorem rise_uniq : ∀ {a b : List P2}, RiseP a → RiseP b → (∀ x, x ∈ a ↔ x ∈ b) → a = b
  | [], [], _, _, _ => rfl
  | [], y :: b, _, _, h => absurd ((h y).2 List.mem_cons_self) (by simp)
  | x :: a, [], _, _, h => absurd ((h x).1 List.mem_cons_self) (by simp)
  | x :: a, y :: b, ha, hb, h => by
    have h1 := List.pairwise_cons.1 ha
    have h2 := List.pairwise_cons.1 hb
    have e : x = y := by
      rcases List.mem_cons.1 ((h x).1 List.mem_cons_self) with e | hx
      · exact e
      · rcases List.mem_cons.1 ((h y).2 List.mem_cons_self) with e | hy
        · exact e.symm
        · exact absurd (ltP (h1.1 y hy) (h2.1 x hx)) (P2.irr x)
    subst e
    rw [rise_uniq h1.2 h2.2 (fun z => ?_)]
    constructor
    · intro hz
      rcases List.mem_cons.1 ((h z).1 (List.mem_cons_of_mem _ hz)) with e | hz2
      · subst e
        exact absurd (h1.1 z hz) (P2.irr z)
      · exact hz2
    · intro hz
      rcases List.mem_cons.1 ((h z).2 (List.mem_cons_of_mem _ hz)) with e | hz2
      · subst e
        exact absurd (h2.1 z hz) (P2.irr z)
      · exact hz2
theorem sortP_of {a l : List P2} (h : RiseP a) (hm : ∀ x, x ∈ a ↔ x ∈ l) : a = sortP l := rise_uniq h (sortP_rise l) (fun x => by rw [hm, sortP_mem])
structure MgI (a b : List P2) (i j : Nat) (out : List P2) : Prop where
  rise : RiseP out
  mem : ∀ x, x ∈ out ↔ x ∈ a.take i ∨ x ∈ b.take j
  ahead : ∀ x ∈ out, (∀ y ∈ a.drop i, x = y ∨ P2.lt x y) ∧ (∀ y ∈ b.drop j, x = y ∨ P2.lt x y)
theorem MgI.start (a b : List P2) : MgI a b 0 0 [] := ⟨List.Pairwise.nil, fun x => by simp, fun x hx => by simp at hx⟩
def addP (out : List P2) (x : P2) : List P2 := if out.getLast? = some x then out else out ++ [x]
theorem addP_rise {out : List P2} {x : P2} (h : RiseP out) (hx : ∀ y ∈ out, y = x ∨ P2.lt y x) : RiseP (addP out x) := by
  unfold addP
  split
  · exact h
  · rename_i hl
    refine List.pairwise_append.2 ⟨h, List.pairwise_singleton _ _, fun y hy z hz => ?_⟩
    rw [List.mem_singleton.1 hz]
    rcases hx y hy with e | h2
    · subst e
      exfalso
      -- y is in a rising list and none is behind it
      obtain ⟨k, hk, ek⟩ := List.getElem_of_mem hy
      have hne : ¬ k = out.length - 1 := fun e2 => hl (by rw [List.getLast?_eq_getElem?, ← e2, List.getElem?_eq_getElem hk, ek])
      have hlt : out.length - 1 < out.length := by omega
      have h3 := List.pairwise_iff_getElem.1 h k (out.length - 1) hk hlt (by omega)
      rw [ek] at h3
      rcases hx _ (List.getElem_mem hlt) with e4 | h4
      · rw [e4] at h3
        exact P2.irr _ h3
      · exact P2.irr _ (ltP h3 h4)
    · exact h2
theorem addP_mem {out : List P2} {x y : P2} : y ∈ addP out x ↔ y ∈ out ∨ y = x := by
  unfold addP
  split
  · rename_i h
    refine ⟨.inl, ?_⟩
    rintro (h1 | rfl)
    · exact h1
    · exact List.mem_of_getLast? h
  · simp
theorem MgI.swap {a b : List P2} {i j : Nat} {out : List P2} (h : MgI a b i j out) : MgI b a j i out := ⟨h.rise, fun x => by rw [h.mem]; exact Or.comm, fun x hx => ⟨(h.ahead x hx).2, (h.ahead x hx).1⟩⟩
theorem MgI.left {a b : List P2} {i j : Nat} {out : List P2} {x : P2} (ha : RiseP a) (hb : RiseP b) (h : MgI a b i j out) (hx : a[i]? = some x) (hle : ∀ y, b[j]? = some y → x = y ∨ P2.lt x y) : MgI a b (i + 1) j (addP out x) := by
  obtain ⟨hi, ex⟩ := List.getElem?_eq_some_iff.1 hx
  have hd : a.drop i = x :: a.drop (i + 1) := by rw [List.drop_eq_getElem_cons hi, ex]
  have hra : ∀ y ∈ a.drop (i + 1), P2.lt x y := by
    have := ha.sublist (List.drop_sublist i a)
    rw [hd] at this
    exact (List.pairwise_cons.1 this).1
  have hrb : ∀ y ∈ b.drop j, x = y ∨ P2.lt x y := by
    intro y hy
    rcases Nat.lt_or_ge j b.length with hj | hj
    · have hdb : b.drop j = b[j] :: b.drop (j + 1) := List.drop_eq_getElem_cons hj
      have h0 := hle _ (List.getElem?_eq_getElem hj)
      rw [hdb] at hy
      rcases List.mem_cons.1 hy with rfl | hy
      · exact h0
      · have := hb.sublist (List.drop_sublist j b)
        rw [hdb] at this
        have h1 := (List.pairwise_cons.1 this).1 y hy
        rcases h0 with e | h0
        · rw [e]; exact .inr h1
        · exact .inr (ltP h0 h1)
    · rw [List.drop_eq_nil_of_le hj] at hy
      simp at hy
  have hox : ∀ y ∈ out, y = x ∨ P2.lt y x := fun y hy => (h.ahead y hy).1 x (by rw [hd]; exact List.mem_cons_self)
  refine ⟨addP_rise h.rise hox, fun y => ?_, fun y hy => ?_⟩
  · rw [addP_mem, h.mem, List.take_add_one, hx]
    simp only [Option.toList, List.mem_append, List.mem_singleton]
    constructor
    · rintro ((h1 | h1) | h1)
      · exact .inl (.inl h1)
      · exact .inr h1
      · exact .inl (.inr h1)
    · rintro ((h1 | h1) | h1)
      · exact .inl (.inl h1)
      · exact .inr h1
      · exact .inl (.inr h1)
  · rcases addP_mem.1 hy with hy | rfl
    · exact ⟨fun z hz => (h.ahead y hy).1 z (by rw [hd]; exact List.mem_cons_of_mem _ hz), (h.ahead y hy).2⟩
    · exact ⟨fun z hz => .inr (hra z hz), hrb⟩
theorem MgI.right {a b : List P2} {i j : Nat} {out : List P2} {x : P2} (ha : RiseP a) (hb : RiseP b) (h : MgI a b i j out) (hx : b[j]? = some x) (hle : ∀ y, a[i]? = some y → ¬ P2.lt y x) : MgI a b i (j + 1) (addP out x) :=
  (MgI.left hb ha h.swap hx (fun y hy => by
    rcases P2.tri x y with h1 | h1 | h1
    · exact .inr h1
    · exact .inl h1
    · exact absurd h1 (hle y hy))).swap
theorem MgI.done {a b l1 l2 : List P2} {out : List P2} (h : MgI a b a.length b.length out) (ha : a = sortP l1) (hb : b = sortP l2) : out = sortP (l1 ++ l2) := by
  refine sortP_of h.rise (fun x => ?_)
  rw [h.mem, List.take_length, List.take_length, ha, hb, sortP_mem, sortP_mem, List.mem_append]
/-! Rows -/
abbrev FA : Nat := 9223372036854775808
abbrev TR : Nat := 9223372036854775809
def pairsN (j : Nat) (ptr : List Nat) : List P2 := (List.range (2 ^ j)).map fun p => (ptr.getD p 0, ptr.getD (p + 2 ^ j) 0)
def levP (j : Nat) (ptr : List Nat) : List P2 := sortP ((pairsN j ptr).filter fun x => !decide (x.1 = x.2))
def levN (lv : Nat) (l : List P2) : List N3 := (List.range l.length).map fun i => ⟨lv * 1099511627776 + i, (l.getD i (0, 0)).1, (l.getD i (0, 0)).2⟩
def upOf (lv : Nat) (l : List P2) (x : P2) : Nat := if x.1 = x.2 then x.1 else lv * 1099511627776 + l.idxOf x
def upN (lv j : Nat) (ptr : List Nat) : List Nat := (pairsN j ptr).map (upOf lv (levP j ptr))
def rowsA (at_ : List Nat) : Nat → List Nat → List N3 → List N3 × Nat
  | 0, ptr, acc => (acc, ptr.getD 0 0)
  | j + 1, ptr, acc => rowsA at_ j (upN (at_.getD j 0) j ptr) (acc ++ levN (at_.getD j 0) (levP j ptr))
def leafOf (b : Bool) : Nat := if b = true then TR else FA
def rowsS (s : FnN) : Dg := ⟨s.n, (rowsA s.at_ s.at_.length (s.bits.map leafOf) []).2, (rowsA s.at_ s.at_.length (s.bits.map leafOf) []).1.length, (rowsA s.at_ s.at_.length (s.bits.map leafOf) []).1⟩
def rowsN (f : FnN) : Dg := rowsS (slimN f)
theorem ptr_lv {lv i : Nat} (h1 : lv < 65536) (h2 : i < 1099511627776) : sIn (lv * 1099511627776 + i) = true ∧ sF (lv * 1099511627776 + i) = false ∧ sL (lv * 1099511627776 + i) = (lv : Int) ∧ sI (lv * 1099511627776 + i) = (i : Int) ∧ lv * 1099511627776 + i < 72057594037927936 := by
  have hd : (lv * 1099511627776 + i) / 1099511627776 = lv := by omega
  have hm : (lv * 1099511627776 + i) % 1099511627776 = i := by omega
  have hs : sF (lv * 1099511627776 + i) = false := by
    unfold sF
    rw [decide_eq_false (by omega), decide_eq_false (by omega)]
    rfl
  have hin : sIn (lv * 1099511627776 + i) = true := by
    unfold sIn
    rw [hs, hd, decide_eq_true h1]
    rfl
  obtain ⟨_, a, b, c⟩ := sIn_lv hin
  rw [hd] at b
  rw [hm] at c
  exact ⟨hin, hs, b, c, a⟩
theorem ptr_nok {lv i n : Nat} (h1 : lv < 65536) (h2 : i < 1099511627776) (h3 : lv < n) : nOk (lv * 1099511627776 + i) n = true := by
  obtain ⟨_, q2, q3, _, _⟩ := ptr_lv h1 h2
  have h5 : (lv * 1099511627776 + i) / 1099511627776 < 65536 := by omega
  unfold nOk sK
  rw [q2, q3, decide_eq_true h5, decide_eq_true (by omega : (lv : Int) < (n : Int))]
  rfl
theorem levN_at {lv : Nat} {l : List P2} {i : Nat} {n : N3} (h : (levN lv l)[i]? = some n) : i < l.length ∧ l[i]? = some (n.low, n.high) ∧ n.self = lv * 1099511627776 + i := by
  unfold levN at h
  rw [List.getElem?_map] at h
  cases hr : (List.range l.length)[i]? with
  | none => rw [hr] at h; cases h
  | some k =>
    rw [hr] at h
    obtain ⟨hi, e⟩ := List.getElem?_eq_some_iff.1 hr
    rw [List.length_range] at hi
    rw [List.getElem_range] at e
    subst e
    simp only [Option.map_some, Option.some.injEq] at h
    subst h
    refine ⟨hi, ?_, rfl⟩
    simp only
    rw [List.getD_eq_getElem?_getD, List.getElem?_eq_getElem hi]
    rfl
theorem levN_len (lv : Nat) (l : List P2) : (levN lv l).length = l.length := by simp [levN]
def Fl (s t : N3) : Prop := flw t.self t.low t.high s.self s.low s.high = true
def ChN (P : List N3) : Prop := ∀ k s t, P[k]? = some s → P[k + 1]? = some t → Fl s t
theorem ChN.app {A B : List N3} (ha : ChN A) (hb : ChN B) (h : ∀ s t, A.getLast? = some s → B[0]? = some t → Fl s t) : ChN (A ++ B) := by
  intro k s t hs ht
  rcases Nat.lt_or_ge (k + 1) A.length with h1 | h1
  · rw [List.getElem?_append_left h1] at ht
    rw [List.getElem?_append_left (by omega)] at hs
    exact ha k s t hs ht
  · rw [List.getElem?_append_right h1] at ht
    rcases Nat.lt_or_ge k A.length with h2 | h2
    · have e : k + 1 - A.length = 0 := by omega
      rw [e] at ht
      rw [List.getElem?_append_left h2] at hs
      refine h s t ?_ ht
      rw [List.getLast?_eq_getElem?, show A.length - 1 = k by omega]
      exact hs
    · rw [List.getElem?_append_right h2] at hs
      rw [show k + 1 - A.length = k - A.length + 1 by omega] at ht
      exact hb _ s t hs ht
def PtrOk (acc : List N3) (p : Nat) : Prop := sF p = true ∨ ∃ n ∈ acc, n.self = p
structure RwI (s : FnN) (j : Nat) (ptr : List Nat) (acc : List N3) : Prop where
  len : ptr.length = 2 ^ j
  ok : ∀ p ∈ ptr, PtrOk acc p
  can : ∀ p q, p < 2 ^ j → q < 2 ^ j → (ptr.getD p 0 = ptr.getD q 0 ↔ ∀ x, x < 2 ^ (s.at_.length - j) → s.bits.getD (p + x * 2 ^ j) false = s.bits.getD (q + x * 2 ^ j) false)
  chain : ChN acc
  first : ∀ n, acc[0]? = some n → sI n.self = 0
  nodes : ∀ n ∈ acc, isN n.self n.low n.high 0 s.n = true ∧ PtrOk acc n.low ∧ PtrOk acc n.high
  deep : ∀ n ∈ acc, ∀ i a, i < j → s.at_[i]? = some a → (a : Int) < sL n.self
  cap : acc.length + 2 ^ j ≤ 2 ^ s.at_.length + 2 ^ s.at_.length
  le : j ≤ s.at_.length
section
variable {s : FnN} {j : Nat} {ptr : List Nat} {acc : List N3}
theorem pairs_len (j : Nat) (ptr : List Nat) : (pairsN j ptr).length = 2 ^ j := by simp [pairsN]
theorem pairs_at {p : Nat} (hp : p < 2 ^ j) : (pairsN j ptr)[p]? = some (ptr.getD p 0, ptr.getD (p + 2 ^ j) 0) := by
  unfold pairsN
  rw [List.getElem?_map, List.getElem?_range hp]
  rfl
theorem up_len (lv j : Nat) (ptr : List Nat) : (upN lv j ptr).length = 2 ^ j := by simp [upN, pairs_len]
theorem up_at {lv p : Nat} (hp : p < 2 ^ j) : (upN lv j ptr)[p]? = some (upOf lv (levP j ptr) (ptr.getD p 0, ptr.getD (p + 2 ^ j) 0)) := by
  unfold upN
  rw [List.getElem?_map, pairs_at hp]
  rfl
theorem lev_len (j : Nat) (ptr : List Nat) : (levP j ptr).length ≤ 2 ^ j := by
  refine Nat.le_trans (sortP_len _) (Nat.le_trans (List.length_filter_le _ _) ?_)
  rw [pairs_len]
  exact Nat.le_refl _
theorem lev_mem {x : P2} : x ∈ levP j ptr ↔ (∃ p, p < 2 ^ j ∧ x = (ptr.getD p 0, ptr.getD (p + 2 ^ j) 0)) ∧ ¬ x.1 = x.2 := by
  unfold levP
  rw [sortP_mem, List.mem_filter]
  refine and_congr ⟨fun h => ?_, ?_⟩ (by simp)
  · unfold pairsN at h
    obtain ⟨p, hp, e⟩ := List.mem_map.1 h
    exact ⟨p, List.mem_range.1 hp, e.symm⟩
  · rintro ⟨p, hp, rfl⟩
    exact List.mem_of_getElem? (pairs_at hp)
theorem idx_at {l : List P2} {x : P2} (hx : x ∈ l) : l[l.idxOf x]? = some x := by
  have h := List.idxOf_lt_length_of_mem hx
  rw [List.getElem?_eq_getElem h, List.getElem_idxOf]
theorem getD_mem {l : List Nat} {p : Nat} (h : p < l.length) : l.getD p 0 ∈ l := by
  rw [List.getD_eq_getElem?_getD, List.getElem?_eq_getElem h]
  exact List.getElem_mem h
theorem bhd_lt {a b : P2} : bhd b.1 b.2 a.1 a.2 = true ↔ P2.lt a b := by
  unfold bhd P2.lt
  rw [Bool.or_eq_true, Bool.and_eq_true, decide_eq_true_eq, decide_eq_true_eq, decide_eq_true_eq]
  omega
theorem RwI.start (h : FnOk s) : RwI s s.at_.length (s.bits.map leafOf) [] := {
  len := by rw [List.length_map, h.len]
  ok p hp := by
    obtain ⟨b, _, rfl⟩ := List.mem_map.1 hp
    left
    cases b <;> decide
  can p q hp hq := by
    have e : ∀ p, p < 2 ^ s.at_.length → (s.bits.map leafOf).getD p 0 = leafOf (s.bits.getD p false) := fun p hp => by
      have hp : p < s.bits.length := by rw [h.len]; exact hp
      rw [List.getD_eq_getElem?_getD, List.getElem?_map, List.getD_eq_getElem?_getD, List.getElem?_eq_getElem hp]
      rfl
    have inj : ∀ a b : Bool, leafOf a = leafOf b ↔ a = b := by
      intro a b
      cases a <;> cases b <;> simp [leafOf, FA, TR]
    rw [e p hp, e q hq, inj, Nat.sub_self]
    constructor
    · intro h1 x hx
      have : x = 0 := by
        have : x < 1 := by simpa using hx
        omega
      subst this
      simpa using h1
    · intro h1
      have := h1 0 (by simp)
      simpa using this
  chain k a b ha := by simp at ha
  first n hn := by simp at hn
  nodes n hn := by simp at hn
  deep n hn := by simp at hn
  cap := by simp
  le := Nat.le_refl _ }
theorem PtrOk.more {A B : List N3} {p : Nat} (h : PtrOk A p) : PtrOk (A ++ B) p := h.elim .inl (fun ⟨n, hn, e⟩ => .inr ⟨n, List.mem_append_left _ hn, e⟩)
theorem RwI.step (h : FnOk s) (hv : s.n ≤ 65536) (I : RwI s (j + 1) ptr acc) : RwI s j (upN (s.at_.getD j 0) j ptr) (acc ++ levN (s.at_.getD j 0) (levP j ptr)) := by
  have hj : j < s.at_.length := I.le
  obtain ⟨lv, hlv⟩ : ∃ lv, lv = s.at_.getD j 0 := ⟨_, rfl⟩
  have hat : s.at_[j]? = some lv := by rw [hlv, List.getD_eq_getElem?_getD, List.getElem?_eq_getElem hj]; rfl
  have hlvn : lv < s.n := h.lt lv (List.mem_of_getElem? hat)
  have hlv2 : lv < 65536 := by omega
  obtain ⟨l, hl⟩ : ∃ l, l = levP j ptr := ⟨_, rfl⟩
  have hll : l.length ≤ 2 ^ j := by rw [hl]; exact lev_len j ptr
  have hj16 : 2 ^ j ≤ 2 ^ 16 := Nat.pow_le_pow_right (by omega) (by have := h.le; omega)
  have hl40 : l.length < 1099511627776 := by omega
  have hpow : 2 ^ (j + 1) = 2 ^ j + 2 ^ j := by rw [Nat.pow_succ]; omega
  have hplen : ptr.length = 2 ^ j + 2 ^ j := by rw [I.len, hpow]
  have hrise : RiseP l := by rw [hl]; exact sortP_rise _
  rw [← hlv, ← hl]
  have hself : ∀ i, i < l.length → sIn (lv * 1099511627776 + i) = true ∧ sF (lv * 1099511627776 + i) = false ∧ sL (lv * 1099511627776 + i) = (lv : Int) ∧ sI (lv * 1099511627776 + i) = (i : Int) ∧ lv * 1099511627776 + i < 72057594037927936 := fun i hi => ptr_lv hlv2 (by omega)
  have hpok : ∀ p, p < 2 ^ j + 2 ^ j → PtrOk acc (ptr.getD p 0) := fun p hp => I.ok _ (getD_mem (by rw [hplen]; exact hp))
  have hnode : ∀ n ∈ levN lv l, ∃ i, i < l.length ∧ l[i]? = some (n.low, n.high) ∧ n.self = lv * 1099511627776 + i := fun n hn => by
    obtain ⟨i, hi⟩ := List.getElem?_of_mem hn
    obtain ⟨a, b, c⟩ := levN_at hi
    exact ⟨i, a, b, c⟩
  have hchild : ∀ i a b, l[i]? = some (a, b) → PtrOk acc a ∧ PtrOk acc b ∧ ¬ a = b := fun i a b hi => by
    have hm := List.mem_of_getElem? hi
    rw [hl] at hm
    obtain ⟨⟨p, hp, e⟩, hne⟩ := lev_mem.1 hm
    injection e with e1 e2
    rw [e1, e2]
    rw [e1, e2] at hne
    exact ⟨hpok p (by omega), hpok _ (by omega), hne⟩
  have hru : ∀ p, PtrOk acc p → rU p (lv : Int) s.n = true := fun p hp => by
    unfold rU
    rcases hp with h1 | ⟨n, hn, rfl⟩
    · rw [h1]; rfl
    · have h1 := I.deep n hn j lv (by omega) hat
      have h2 := (I.nodes n hn).1
      unfold isN at h2
      simp only [Bool.and_eq_true] at h2
      rw [h2.1.1.1.1, decide_eq_true h1]
      simp
  have hisN : ∀ n ∈ levN lv l, isN n.self n.low n.high 0 s.n = true ∧ PtrOk acc n.low ∧ PtrOk acc n.high := fun n hn => by
    obtain ⟨i, hi, hx, hs⟩ := hnode n hn
    obtain ⟨a, b, c⟩ := hchild i _ _ hx
    obtain ⟨q1, q2, q3, q4, q5⟩ := hself i hi
    refine ⟨?_, a, b⟩
    unfold isN
    rw [hs, q3, hru _ a, hru _ b]
    have : nOk (lv * 1099511627776 + i) s.n = true := ptr_nok hlv2 (Nat.lt_trans hi hl40) hlvn
    rw [this, decide_eq_false c]
    rfl
  have hptr2 : ∀ x : P2, PtrOk acc x.1 → (¬ x.1 = x.2 → x ∈ l) → PtrOk (acc ++ levN lv l) (upOf lv l x) := fun x hx hm => by
    unfold upOf
    split
    · exact hx.more
    · rename_i hne
      have hlt := List.idxOf_lt_length_of_mem (hm hne)
      refine .inr ⟨⟨lv * 1099511627776 + l.idxOf x, (l.getD (l.idxOf x) (0, 0)).1, (l.getD (l.idxOf x) (0, 0)).2⟩, List.mem_append_right _ ?_, rfl⟩
      unfold levN
      exact List.mem_map.2 ⟨l.idxOf x, List.mem_range.2 hlt, rfl⟩
  -- a pointer of acc is none of this level
  have hfar : ∀ p i, PtrOk acc p → i < l.length → ¬ p = lv * 1099511627776 + i := fun p i hp hi e => by
    obtain ⟨q1, q2, q3, q4, q5⟩ := hself i hi
    rcases hp with h1 | ⟨n, hn, h1⟩
    · rw [e, q2] at h1; cases h1
    · have := I.deep n hn j lv (by omega) hat
      rw [h1, e, q3] at this
      omega
  have hup : ∀ p, p < 2 ^ j → (upN lv j ptr).getD p 0 = upOf lv l (ptr.getD p 0, ptr.getD (p + 2 ^ j) 0) := fun p hp => by
    rw [List.getD_eq_getElem?_getD, up_at hp, ← hl]
    rfl
  have hin : ∀ p, p < 2 ^ j → ¬ ptr.getD p 0 = ptr.getD (p + 2 ^ j) 0 → (ptr.getD p 0, ptr.getD (p + 2 ^ j) 0) ∈ l := fun p hp hne => by
    rw [hl]
    exact lev_mem.2 ⟨⟨p, hp, rfl⟩, hne⟩
  refine ⟨up_len _ _ _, fun p hp => ?_, fun p q hp hq => ?_, ?_, fun n hn => ?_, fun n hn => ?_, fun n hn i a hi ha => ?_, ?_, by omega⟩
  · obtain ⟨k, hk⟩ := List.getElem?_of_mem hp
    have hkl : k < 2 ^ j := by
      have := (List.getElem?_eq_some_iff.1 hk).1
      rw [up_len] at this
      exact this
    rw [up_at hkl, ← hl] at hk
    injection hk with hk
    rw [← hk]
    exact hptr2 _ (hpok k (by omega)) (hin k hkl)
  · rw [hup p hp, hup q hq]
    obtain ⟨a, ha⟩ : ∃ a, a = ptr.getD p 0 := ⟨_, rfl⟩
    obtain ⟨b, hb⟩ : ∃ b, b = ptr.getD (p + 2 ^ j) 0 := ⟨_, rfl⟩
    obtain ⟨c, hc⟩ : ∃ c, c = ptr.getD q 0 := ⟨_, rfl⟩
    obtain ⟨d, hd⟩ : ∃ d, d = ptr.getD (q + 2 ^ j) 0 := ⟨_, rfl⟩
    have key : upOf lv l (a, b) = upOf lv l (c, d) ↔ (a = c ∧ b = d) := by
      have m1 : ¬ a = b → (a, b) ∈ l := fun hne => by rw [ha, hb] at hne ⊢; exact hin p hp hne
      have m2 : ¬ c = d → (c, d) ∈ l := fun hne => by rw [hc, hd] at hne ⊢; exact hin q hq hne
      have pa : PtrOk acc a := by rw [ha]; exact hpok p (by omega)
      have pc : PtrOk acc c := by rw [hc]; exact hpok q (by omega)
      unfold upOf
      simp only
      split
      · rename_i e1
        split
        · rename_i e2
          subst e1 e2
          simp
        · rename_i e2
          refine ⟨fun h => absurd h (hfar a _ pa (List.idxOf_lt_length_of_mem (m2 e2))), ?_⟩
          rintro ⟨rfl, rfl⟩
          exact absurd e1 e2
      · rename_i e1
        split
        · rename_i e2
          refine ⟨fun h => absurd h.symm (hfar c _ pc (List.idxOf_lt_length_of_mem (m1 e1))), ?_⟩
          rintro ⟨rfl, rfl⟩
          exact absurd e2 e1
        · rename_i e2
          refine ⟨fun h => ?_, ?_⟩
          · have e3 : l.idxOf (a, b) = l.idxOf (c, d) := by omega
            have h1 := idx_at (m1 e1)
            have h2 := idx_at (m2 e2)
            rw [e3, h2] at h1
            injection h1 with h1
            injection h1 with h3 h4
            exact ⟨h3.symm, h4.symm⟩
          · rintro ⟨rfl, rfl⟩
            rfl
    rw [← ha, ← hb, ← hc, ← hd, key, ha, hb, hc, hd, I.can p q (by omega) (by omega), I.can (p + 2 ^ j) (q + 2 ^ j) (by omega) (by omega)]
    have hx2 : 2 ^ (s.at_.length - j) = 2 * 2 ^ (s.at_.length - (j + 1)) := by
      rw [show s.at_.length - j = s.at_.length - (j + 1) + 1 by omega, Nat.pow_succ]
      omega
    have e0 : ∀ x, x * 2 ^ (j + 1) = (2 * x) * 2 ^ j := fun x => by rw [Nat.pow_succ, Nat.mul_comm 2 x, Nat.mul_assoc, Nat.mul_comm 2 (2 ^ j)]
    constructor
    · rintro ⟨h1, h2⟩ x hx
      rcases Nat.mod_two_eq_zero_or_one x with hm | hm
      · have := h1 (x / 2) (by omega)
        rw [e0, show 2 * (x / 2) = x by omega] at this
        exact this
      · have := h2 (x / 2) (by omega)
        rw [e0] at this
        have e1 : x * 2 ^ j = 2 ^ j + 2 * (x / 2) * 2 ^ j := by
          have : x = 1 + 2 * (x / 2) := by omega
          conv => lhs; rw [this]
          rw [Nat.add_mul, Nat.one_mul]
        rw [e1, ← Nat.add_assoc, ← Nat.add_assoc]
        exact this
    · intro hh
      refine ⟨fun x hx => ?_, fun x hx => ?_⟩
      · have := hh (2 * x) (by omega)
        rw [e0]
        exact this
      · have := hh (1 + 2 * x) (by omega)
        rw [e0, Nat.add_assoc, Nat.add_assoc]
        rw [Nat.add_mul, Nat.one_mul] at this
        exact this
  · refine I.chain.app (fun k x y hx hy => ?_) (fun x y hx hy => ?_)
    · obtain ⟨h1, h2, h3⟩ := levN_at hx
      obtain ⟨k1, k2, k3⟩ := levN_at hy
      obtain ⟨_, _, q3, q4, _⟩ := hself k h1
      obtain ⟨_, _, r3, r4, _⟩ := hself (k + 1) k1
      have hr := List.pairwise_iff_getElem.1 hrise k (k + 1) h1 k1 (by omega)
      have e1 := (List.getElem?_eq_some_iff.1 h2).2
      have e2 := (List.getElem?_eq_some_iff.1 k2).2
      rw [e1, e2] at hr
      unfold Fl flw
      rw [h3, k3, q3, r3, q4, r4, if_pos rfl, (bhd_lt (a := (x.low, x.high)) (b := (y.low, y.high))).2 hr, decide_eq_true (by omega)]
      rfl
    · have hxm : x ∈ acc := List.mem_of_getLast? hx
      obtain ⟨k1, k2, k3⟩ := levN_at hy
      obtain ⟨_, _, r3, r4, _⟩ := hself 0 k1
      have := I.deep x hxm j lv (by omega) hat
      unfold Fl flw
      rw [k3, r3, r4, if_neg (by omega), decide_eq_true (by omega)]
      rfl
  · cases acc with
    | nil =>
      rw [List.nil_append] at hn
      obtain ⟨k1, k2, k3⟩ := levN_at hn
      rw [k3]
      exact (hself 0 k1).2.2.2.1
    | cons a r => exact I.first n (by simpa using hn)
  · rcases List.mem_append.1 hn with h1 | h1
    · obtain ⟨a, b, c⟩ := I.nodes n h1
      exact ⟨a, b.more, c.more⟩
    · obtain ⟨a, b, c⟩ := hisN n h1
      exact ⟨a, b.more, c.more⟩
  · rcases List.mem_append.1 hn with h1 | h1
    · exact I.deep n h1 i a (by omega) ha
    · obtain ⟨k, hk, _, hs⟩ := hnode n h1
      rw [hs, (hself k hk).2.2.1]
      have := List.pairwise_iff_getElem.1 h.rise i j (by omega) hj hi
      have e1 := (List.getElem?_eq_some_iff.1 ha).2
      have e2 := (List.getElem?_eq_some_iff.1 hat).2
      omega
  · rw [List.length_append, levN_len]
    have := I.cap
    omega
end
end Go.Proofs.YtadipinnbehhhaaGreatDoor
namespace Go.Proofs.YtadipinnbehhhaaGreatDoor
open Go.RowKit

section
variable {d : Dg}
theorem ids_back {P : List N3} (hc : ChN P) (hf : ∀ n, P[0]? = some n → sI n.self = 0) : ∀ (i k : Nat) (n : N3), P[k]? = some n → sI n.self = (i : Int) → i ≤ k ∧ ∃ x, P[k - i]? = some x ∧ sL x.self = sL n.self ∧ sI x.self = 0
  | 0, k, n, hn, hi => ⟨Nat.zero_le _, n, hn, rfl, hi⟩
  | i + 1, k, n, hn, hi => by
    cases k with
    | zero =>
      have := hf n hn
      rw [this] at hi
      omega
    | succ k =>
      have hk := (List.getElem?_eq_some_iff.1 hn).1
      obtain ⟨y, hy⟩ : ∃ y, P[k]? = some y := ⟨_, List.getElem?_eq_getElem (by omega)⟩
      have hfl := hc k y n hy hn
      unfold Fl flw at hfl
      split at hfl
      · rename_i hl
        simp only [Bool.and_eq_true, decide_eq_true_eq] at hfl
        obtain ⟨h1, x, hx, hxl, hxi⟩ := ids_back hc hf i k y hy (by omega)
        exact ⟨by omega, x, by rw [show k + 1 - (i + 1) = k - i by omega]; exact hx, by rw [hxl, hl], hxi⟩
      · simp only [Bool.and_eq_true, decide_eq_true_eq] at hfl
        omega
theorem starts_at {P : List N3} {v : Nat} (hp : List.Pairwise Later P) {k : Nat} {n : N3} (hn : P[k]? = some n) (hi : sI n.self = 0) (hv : sL n.self < v) : ∀ m, k < m → (startsN v P m).getD (sL n.self).toNat 0 = (k : Int)
  | 0, h => by omega
  | m + 1, h => by
    have hsl := sL_lt n.self
    unfold startsN
    rcases Nat.lt_or_ge k m with h1 | h1
    · have ih := starts_at hp hn hi hv m h1
      split
      · exact ih
      · rename_i x hx
        split
        · rename_i h0
          have hne : ¬ (sL x.self).toNat = (sL n.self).toNat := fun e => by
            obtain ⟨hk, ek⟩ := List.getElem?_eq_some_iff.1 hn
            obtain ⟨hm, em⟩ := List.getElem?_eq_some_iff.1 hx
            have := List.pairwise_iff_getElem.1 hp k m hk hm h1
            rw [ek, em] at this
            unfold Later at this
            have := sL_lt x.self
            omega
          rw [List.getD_eq_getElem?_getD, List.getElem?_set_ne hne, ← List.getD_eq_getElem?_getD]
          exact ih
        · exact ih
    · have e : k = m := by omega
      subst e
      rw [hn]
      simp only
      rw [if_pos hi, List.getD_eq_getElem?_getD, List.getElem?_set_self (by rw [startsN_len]; omega)]
      rfl
theorem InRows.chain (h : InRows d) : ChN d.P := fun k s t hs ht => by
  have hu := h.up_at ht
  simp only [Bool.and_eq_true] at hu
  have := fits_up hu.2 (by omega)
  have e : prevN d.P n0 (k + 1) = s := by
    unfold prevN
    rw [if_neg (by omega), Nat.add_sub_cancel, List.getD_eq_getElem?_getD, hs]
    rfl
  rw [e] at this
  exact this
theorem InRows.first (h : InRows d) : ∀ n, d.P[0]? = some n → sI n.self = 0 := fun n hn => by
  have hu := h.up_at hn
  simp only [Bool.and_eq_true] at hu
  have h2 := hu.2
  unfold fitsB at h2
  simp only [Bool.and_eq_true, if_true] at h2
  simpa using h2.1
theorem InRows.find_mem (h : InRows d) {n : N3} (hn : n ∈ d.P) : 0 ≤ findL d d.starts n.self := by
  obtain ⟨k, hk⟩ := List.getElem?_of_mem hn
  have hkl := (List.getElem?_eq_some_iff.1 hk).1
  have hlen := h.len
  have hnn := sI_nn n.self
  obtain ⟨i, hi⟩ : ∃ i : Nat, sI n.self = (i : Int) := ⟨(sI n.self).toNat, by omega⟩
  obtain ⟨h1, x, hx, hxl, hxi⟩ := ids_back h.chain h.first i k n hk hi
  have hok : nOk n.self d.v = true := by
    have := h.node hn
    unfold isN at this
    simp only [Bool.and_eq_true] at this
    exact this.1.1.1.1
  have hlv : sL n.self < (d.v : Int) := by
    have := hok
    unfold nOk at this
    simp only [Bool.and_eq_true, decide_eq_true_eq] at this
    exact this.2
  have hs : d.starts.getD (sL n.self).toNat 0 = ((k - i : Nat) : Int) := by
    rw [← hxl]
    exact starts_at h.pairs hx hxi (by rw [hxl]; exact hlv) d.m (by omega)
  unfold findL
  rw [if_pos hok, hs, hi]
  simp only
  rw [if_neg (by omega), if_neg (by omega), if_pos]
  · omega
  · rw [show (((k - i : Nat) : Int) + (i : Int)).toNat = k by omega, List.getD_eq_getElem?_getD, List.getElem?_map, hk]
    rfl
end

theorem xor_one_mod (i : Nat) : (i ^^^ 1) % 2 = (i + 1) % 2 := by
  have h4 := Nat.testBit_xor i 1 0
  simp only [Nat.testBit_zero] at h4
  rcases Nat.mod_two_eq_zero_or_one i with h5 | h5
  · rw [h5] at h4
    have : (i ^^^ 1) % 2 = 1 := by simpa using h4
    omega
  · rw [h5] at h4
    have : ¬ (i ^^^ 1) % 2 = 1 := by simpa using h4
    omega
section
variable {s : FnN}
theorem hang_ne {ptr : List Nat} {acc : List N3} (I : RwI s 1 ptr acc) (hh : ∃ i, i < 2 ^ s.at_.length ∧ ¬ s.bits.getD i false = s.bits.getD (i ^^^ 1) false) : ¬ ptr.getD 0 0 = ptr.getD 1 0 := by
  intro e
  obtain ⟨i, hi, hne⟩ := hh
  have hm := I.le
  have hc := (I.can 0 1 (by omega) (by omega)).1 e
  have hpow : 2 ^ s.at_.length = 2 * 2 ^ (s.at_.length - 1) := by
    conv => lhs; rw [show s.at_.length = s.at_.length - 1 + 1 by omega, Nat.pow_succ]
    omega
  have hx := hc (i / 2) (by omega)
  rw [show (2 : Nat) ^ 1 = 2 from rfl] at hx
  have h2 : (i ^^^ 1) / 2 = i / 2 := by rw [Nat.xor_div_two]; simp
  have h3 : (i ^^^ 1) % 2 = (i + 1) % 2 := xor_one_mod i
  rcases Nat.mod_two_eq_zero_or_one i with h0 | h0
  · have e1 : i ^^^ 1 = 1 + i / 2 * 2 := by omega
    rw [e1, ← hx, show 0 + i / 2 * 2 = i by omega] at hne
    exact hne rfl
  · have e1 : i ^^^ 1 = 0 + i / 2 * 2 := by omega
    rw [e1, hx, show 1 + i / 2 * 2 = i by omega] at hne
    exact hne rfl
structure RwE (s : FnN) (P : List N3) (r : Nat) : Prop where
  inv : RwI s 0 [r] P
  root : ¬ s.at_ = [] → ∃ lv, lv < 65536 ∧ r = lv * 1099511627776 ∧ ¬ P = [] ∧ (lastN P).self = r
  leaf : s.at_ = [] → P = [] ∧ sF r = true
theorem rows_end (h : FnOk s) (hv : s.n ≤ 65536) (hh : ¬ s.at_ = [] → ∃ i, i < 2 ^ s.at_.length ∧ ¬ s.bits.getD i false = s.bits.getD (i ^^^ 1) false) : ∀ (j : Nat) (ptr : List Nat) (acc : List N3), RwI s (j + 1) ptr acc → RwE s (rowsA s.at_ (j + 1) ptr acc).1 (rowsA s.at_ (j + 1) ptr acc).2
  | 0, ptr, acc, I => by
    have J := I.step h hv
    have hm := I.le
    have hne : ¬ s.at_ = [] := fun e => by rw [e] at hm; simp at hm
    have hn := hang_ne I (hh hne)
    obtain ⟨lv, hlv⟩ : ∃ lv, lv = s.at_.getD 0 0 := ⟨_, rfl⟩
    have hat : s.at_[0]? = some lv := by rw [hlv, List.getD_eq_getElem?_getD, List.getElem?_eq_getElem (by omega)]; rfl
    have hlv2 : lv < 65536 := by have := h.lt lv (List.mem_of_getElem? hat); omega
    obtain ⟨a, ha⟩ : ∃ a, a = ptr.getD 0 0 := ⟨_, rfl⟩
    obtain ⟨b, hb⟩ : ∃ b, b = ptr.getD 1 0 := ⟨_, rfl⟩
    have hp : pairsN 0 ptr = [(a, b)] := by rw [ha, hb]; rfl
    rw [← ha, ← hb] at hn
    have hl : levP 0 ptr = [(a, b)] := by
      unfold levP
      rw [hp, List.filter_cons_of_pos (by simpa using hn)]
      rfl
    have hlev : levN lv (levP 0 ptr) = [⟨lv * 1099511627776, a, b⟩] := by
      rw [hl]
      unfold levN
      simp
    have hup : upN lv 0 ptr = [lv * 1099511627776] := by
      unfold upN
      rw [hp, hl, List.map_singleton]
      unfold upOf
      rw [if_neg hn]
      simp
    rw [← hlv, hlev, hup] at J
    have e : rowsA s.at_ 1 ptr acc = (acc ++ [⟨lv * 1099511627776, a, b⟩], lv * 1099511627776) := by
      show rowsA s.at_ 0 (upN (s.at_.getD 0 0) 0 ptr) (acc ++ levN (s.at_.getD 0 0) (levP 0 ptr)) = _
      rw [← hlv, hlev, hup]
      rfl
    rw [e]
    exact ⟨J, fun _ => ⟨lv, hlv2, rfl, by simp, by rw [lastN_snoc]⟩, fun e2 => absurd e2 hne⟩
  | j + 1, ptr, acc, I => rows_end h hv hh j _ _ (I.step h hv)
theorem rows_all (h : FnOk s) (hv : s.n ≤ 65536) (hh : ¬ s.at_ = [] → ∃ i, i < 2 ^ s.at_.length ∧ ¬ s.bits.getD i false = s.bits.getD (i ^^^ 1) false) : RwE s (rowsS s).P (rowsS s).r := by
  have I := RwI.start h
  show RwE s (rowsA s.at_ s.at_.length (s.bits.map leafOf) []).1 (rowsA s.at_ s.at_.length (s.bits.map leafOf) []).2
  cases hm : s.at_.length with
  | zero =>
    rw [hm] at I
    have hl := I.len
    have h0 : s.at_ = [] := List.eq_nil_of_length_eq_zero hm
    obtain ⟨x, hx⟩ : ∃ x, s.bits.map leafOf = [x] := by
      match hb : s.bits.map leafOf, hl with
      | [x], _ => exact ⟨x, rfl⟩
      | [], hl => simp at hl
      | a :: b :: c, hl => simp at hl
    rw [hx] at I ⊢
    refine ⟨I, fun e => absurd h0 e, fun _ => ⟨rfl, ?_⟩⟩
    rcases I.ok x (by simp) with h1 | ⟨n, hn, _⟩
    · exact h1
    · simp at hn
  | succ j =>
    rw [hm] at I
    exact rows_end h hv hh j _ _ I
theorem rows_dg (h : FnOk s) (hv : s.n ≤ 65536) (hh : ¬ s.at_ = [] → ∃ i, i < 2 ^ s.at_.length ∧ ¬ s.bits.getD i false = s.bits.getD (i ^^^ 1) false) : DgOk (rowsS s) := by
  have E := rows_all h hv hh
  obtain ⟨P, hP⟩ : ∃ P, P = (rowsS s).P := ⟨_, rfl⟩
  obtain ⟨r, hr⟩ : ∃ r, r = (rowsS s).r := ⟨_, rfl⟩
  have hd : rowsS s = ⟨s.n, r, P.length, P⟩ := by rw [hP, hr]; rfl
  rw [← hP, ← hr] at E
  rw [hd]
  have I := E.inv
  have hcap := I.cap
  have hpow : 2 ^ s.at_.length ≤ 2 ^ 16 := Nat.pow_le_pow_right (by omega) h.le
  have hlen : P.length < 1099511627776 := by omega
  have hsub : ∀ p, PtrOk P p → sF p = true ∨ (sIn p = true ∧ p < 72057594037927936) := fun p hp => by
    rcases hp with h1 | ⟨n, hn, rfl⟩
    · exact .inl h1
    · have := isN_in (I.nodes n hn).1
      exact .inr ⟨this, (sIn_lv this).2.1⟩
  have h64 : ∀ p, PtrOk P p → p < 18446744073709551616 := fun p hp => by
    rcases hsub p hp with h1 | h1
    · rcases (sF_cases p).1 h1 with e | e <;> omega
    · omega
  have hself : ∀ n ∈ P, PtrOk P n.self := fun n hn => .inr ⟨n, hn, rfl⟩
  have hrows : InRows ⟨s.n, r, P.length, P⟩ := by
    refine ⟨rfl, hlen, hv, h64 r (I.ok r (by simp)), ?_, ?_, fun h0 => ?_, fun n hn => ⟨h64 _ (hself n hn), h64 _ (I.nodes n hn).2.1, h64 _ (I.nodes n hn).2.2⟩⟩
    · refine walk_of P 0 n0 (fun k n hn => ?_)
      have hk := (List.getElem?_eq_some_iff.1 hn).1
      have h1 := (I.nodes n (List.mem_of_getElem? hn)).1
      have h2 : n.rec4.isN s.n = true := h1
      rw [h2, Bool.true_and]
      unfold fitsB
      rw [decide_eq_true (show 0 + k + 1 < P.length + 1 by omega), Bool.true_or, Bool.and_true]
      rcases Nat.eq_zero_or_pos k with h0 | h0
      · subst h0
        rw [if_pos rfl, if_pos rfl, I.first n hn]
        rfl
      · rw [if_neg (by omega), if_pos rfl]
        obtain ⟨x, hx⟩ : ∃ x, P[k - 1]? = some x := ⟨_, List.getElem?_eq_getElem (by omega)⟩
        have e : prevN P n0 k = x := by
          unfold prevN
          rw [if_neg (by omega), List.getD_eq_getElem?_getD, hx]
          rfl
        rw [e]
        exact I.chain (k - 1) x n hx (by rw [show k - 1 + 1 = k by omega]; exact hn)
    · show Go.Proofs.YtadipinnbehhhaaGreatDoor.isE 18446744073709551615 s.n r P.length = true
      unfold Go.Proofs.YtadipinnbehhhaaGreatDoor.isE
      rw [decide_eq_true rfl, decide_eq_true hv, decide_eq_true (by omega : P.length < 9223372036854775808), Bool.true_and, Bool.true_and, Bool.true_and]
      by_cases h0 : s.at_ = []
      · obtain ⟨e1, e2⟩ := E.leaf h0
        rw [e2, e1]
        rfl
      · obtain ⟨lv, h1, h2, h3, h4⟩ := E.root h0
        obtain ⟨q1, q2, q3, q4, q5⟩ := ptr_lv (i := 0) h1 (by omega)
        rw [Nat.add_zero, ← h2] at q1 q2 q3 q4 q5
        obtain ⟨n, hn, hl, hmem⟩ := lastN_at (P := P) rfl (List.length_pos_iff.2 h3)
        rw [hl] at h4
        have h5 := (I.nodes n hmem).1
        unfold isN at h5
        simp only [Bool.and_eq_true] at h5
        have h6 := h5.1.1.1.1
        rw [h4] at h6
        rw [q2, h6, q4, decide_eq_true (List.length_pos_iff.2 h3)]
        rfl
    · have hne : ¬ P = [] := List.length_pos_iff.1 h0
      have : ¬ s.at_ = [] := fun e => hne (E.leaf e).1
      obtain ⟨_, _, _, _, h4⟩ := E.root this
      exact h4
  refine ⟨hrows, fun n hn => ?_⟩
  have key : ∀ p, PtrOk P p → sF p = true ∨ 0 ≤ findL ⟨s.n, r, P.length, P⟩ (Dg.starts ⟨s.n, r, P.length, P⟩) p := fun p hp => by
    rcases hp with h1 | ⟨x, hx, rfl⟩
    · exact .inl h1
    · exact .inr (hrows.find_mem hx)
  exact ⟨key _ (I.nodes n hn).2.1, key _ (I.nodes n hn).2.2⟩
theorem rowsN_ok {f : FnN} (h : FnOk f) (hv : f.n ≤ 65536) : DgOk (rowsN f) := rows_dg (slim_ok h) hv (slim_hangs h)
theorem rowsN_len {f : FnN} (h : FnOk f) (hv : f.n ≤ 65536) : (rowsN f).P.length ≤ 131072 := by
  have E := rows_all (slim_ok h) hv (slim_hangs h)
  have hcap := E.inv.cap
  have hpow : 2 ^ (slimN f).at_.length ≤ 2 ^ 16 := Nat.pow_le_pow_right (by omega) (slim_ok h).le
  have : (rowsN f).P.length + 1 ≤ 2 ^ (slimN f).at_.length + 2 ^ (slimN f).at_.length := hcap
  omega
end
end Go.Proofs.YtadipinnbehhhaaGreatDoor
namespace Go.Proofs.YtadipinnbehhhaaGreatDoor
open Go.RowKit

def nats (l : List Nat) : List Value := l.map fun x : Nat => Value.int .i64 (x : Int)
theorem nats_at {l : List Nat} {i x : Nat} (h : l[i]? = some x) : (nats l)[i]? = some (.int .i64 (x : Int)) := by
  unfold nats
  rw [List.getElem?_map, h]
  rfl
theorem nats_app (a b : List Nat) : nats (a ++ b) = nats a ++ nats b := by simp [nats]
def Spotless (A : Option Addr) : Prop := ∀ a, A = some a → a.spot = none
theorem nat_at {w : World} {A : Option Addr} {l : List Nat} (h : Rd w A (nats l)) {k x : Nat} (hx : l[k]? = some x) (hs : Spotless A) :
    ∃ g o, A = some ⟨g, o, none⟩ ∧ w.cell? ⟨g, o + k, none⟩ = some (.int .i64 (x : Int)) := by
  obtain ⟨⟨g, o, sp⟩, rfl, c0⟩ := h k _ (nats_at hx)
  obtain rfl : sp = none := hs _ rfl
  rw [add_at] at c0
  exact ⟨g, o, rfl, c0⟩
section
variable {w w' : World}
set_option maxRecDepth 100000 in
set_option maxHeartbeats 4000000 in
theorem holds_any (A : Option Addr) (cc : Nat) (l : List Nat) (x : Int) (w : World) (h : Rd w A (nats l)) (hs : Spotless A) (hl : l.length ≤ 1099511627776) :
    Calls Tryz.prog 214 #[.slice A l.length cc, .int .i64 x] w fun e w' => e = .returned (.bool (decide (∃ y ∈ l, (y : Int) = x))) ∧ w' = w := by
  have HR := Hid.intro_ h
  obtain ⟨N, hN⟩ : ∃ N, N = l.length := ⟨_, rfl⟩
  rw [← hN] at hl ⊢
  have HN := Hid.intro_ hN
  obtain ⟨T, hT⟩ : ∃ T, T = decide (∃ y ∈ l, (y : Int) = x) := ⟨_, rfl⟩
  rw [← hT]
  have HT := Hid.intro_ hT
  clear h hT hN
  go_enter Tryz.func214, Tryz.ntmps214
  go_wp2
  go_loopw [5] (fun i wz => ∃ (q : Nat), q ≤ N ∧ i = .int .i64 q ∧ wz = w ∧ Hid (∀ j y, j < q → l[j]? = some y → ¬ (y : Int) = x)) (fun i _ => N - (intOf i).toNat)
  case atStart => exact ⟨0, Nat.zero_le _, rfl, rfl, Hid.intro_ (fun j y hj => by omega)⟩
  case round =>
    obtain ⟨q, hqm, rfl, hwz, HI⟩ := hrel
    obtain rfl := hwz.symm
    by_cases hlq : q < N
    · obtain ⟨y, hy⟩ : ∃ y, l[q]? = some y := ⟨_, List.getElem?_eq_getElem (by have := HN.out; omega)⟩
      obtain ⟨g, o, hAe, p0⟩ := nat_at HR.out hy hs
      subst hAe
      have HY := Hid.intro_ hy
      have hqi : (q : Int) < (N : Int) := by omega
      have hq0 : (0 : Int) ≤ (q : Int) := by omega
      clear hy
      by_cases he : (y : Int) = x
      · have HF := Hid.intro_ (show T = true by rw [HT.out]; exact decide_eq_true ⟨y, List.mem_of_getElem? HY.out, he⟩)
        have h2 : ((y : Int) == x) = true := by simp [he]
        clear he
        go_wp2_with fail
        go_ret
        exact ⟨by rw [HF.out] <;> rfl, rfl⟩
      · have HF := Hid.intro_ he
        have h2 : ((y : Int) == x) = false := by simp [he]
        clear he
        go_wp2_with fail
        go_roundw
        case rel => exact ⟨q + 1, by omega, by go_num, trivial, Hid.intro_ (fun j z hj hz => by
          rcases Nat.lt_or_ge j q with h4 | h4
          · exact HI.out j z h4 hz
          · have : j = q := by omega
            subst this
            rw [HY.out] at hz
            injection hz with hz
            subst hz
            exact HF.out)⟩
        case measure => simp [intOf]; omega
    · obtain rfl : q = N := by omega
      have HF := Hid.intro_ (show T = false by
        rw [HT.out]
        refine decide_eq_false ?_
        rintro ⟨y, hy, e⟩
        obtain ⟨j, hj⟩ := List.getElem?_of_mem hy
        exact HI.out j y (by have := (List.getElem?_eq_some_iff.1 hj).1; have := HN.out; omega) hj e)
      go_wp2_with fail
      go_ret
      exact ⟨by rw [HF.out] <;> rfl, rfl⟩
/-! insert -/
theorem insN_done {x y : Nat} : ∀ {p : List Nat}, (∃ z ∈ p, x < z) → insN x (p ++ [y]) = insN x p ++ [y]
  | [], h => by obtain ⟨z, hz, _⟩ := h; simp at hz
  | a :: p, h => by
    show (if x < a then x :: a :: (p ++ [y]) else a :: insN x (p ++ [y])) = (if x < a then x :: a :: p else a :: insN x p) ++ [y]
    by_cases hc : x < a
    · rw [if_pos hc, if_pos hc]; rfl
    · rw [if_neg hc, if_neg hc, insN_done (p := p)]
      · rfl
      · obtain ⟨z, hz, hz2⟩ := h
        rcases List.mem_cons.1 hz with rfl | hz
        · exact absurd hz2 hc
        · exact ⟨z, hz, hz2⟩
theorem insN_not {x : Nat} : ∀ {p : List Nat}, (∀ z ∈ p, ¬ x < z) → insN x p = p ++ [x]
  | [], _ => rfl
  | a :: p, h => by
    show (if x < a then x :: a :: p else a :: insN x p) = _
    rw [if_neg (h a List.mem_cons_self), insN_not (p := p) (fun z hz => h z (List.mem_cons_of_mem _ hz))]
    rfl
theorem insN_here {x y : Nat} : ∀ {p : List Nat}, (∀ z ∈ p, ¬ x < z) → x < y → insN x (p ++ [y]) = p ++ [x] ++ [y]
  | [], _, h => by
    show (if x < y then [x, y] else _) = _
    rw [if_pos h]
    rfl
  | a :: p, h, hy => by
    show (if x < a then _ else a :: insN x (p ++ [y])) = _
    rw [if_neg (h a List.mem_cons_self), insN_here (p := p) (fun z hz => h z (List.mem_cons_of_mem _ hz)) hy]
    rfl
structure InsI (x : Nat) (l : List Nat) (k : Nat) (b : Bool) (o : List Nat) : Prop where
  yes : b = true → (∃ z ∈ l.take k, x < z) ∧ o = insN x (l.take k)
  no : b = false → (∀ z ∈ l.take k, ¬ x < z) ∧ o = l.take k
theorem InsI.start (x : Nat) (l : List Nat) : InsI x l 0 false [] := ⟨(fun h => by cases h), fun _ => ⟨fun z hz => by simp at hz, by simp⟩⟩
theorem take_sn2 {l : List Nat} {k y : Nat} (h : l[k]? = some y) : l.take (k + 1) = l.take k ++ [y] := by rw [List.take_add_one, h]; rfl
theorem InsI.done {x y k : Nat} {l o : List Nat} (h : InsI x l k true o) (hy : l[k]? = some y) : InsI x l (k + 1) true (o ++ [y]) := by
  obtain ⟨h1, h2⟩ := h.yes rfl
  refine ⟨fun _ => ?_, (fun h => by cases h)⟩
  rw [take_sn2 hy, insN_done h1, h2]
  obtain ⟨z, hz, hz2⟩ := h1
  exact ⟨⟨z, List.mem_append_left _ hz, hz2⟩, rfl⟩
theorem InsI.here {x y k : Nat} {l o : List Nat} (h : InsI x l k false o) (hy : l[k]? = some y) (hx : x < y) : InsI x l (k + 1) true (o ++ [x] ++ [y]) := by
  obtain ⟨h1, h2⟩ := h.no rfl
  refine ⟨fun _ => ?_, (fun h => by cases h)⟩
  rw [take_sn2 hy, insN_here h1 hx, h2]
  exact ⟨⟨y, List.mem_append_right _ List.mem_cons_self, hx⟩, rfl⟩
theorem InsI.pass {x y k : Nat} {l o : List Nat} (h : InsI x l k false o) (hy : l[k]? = some y) (hx : ¬ x < y) : InsI x l (k + 1) false (o ++ [y]) := by
  obtain ⟨h1, h2⟩ := h.no rfl
  refine ⟨(fun h => by cases h), fun _ => ?_⟩
  rw [take_sn2 hy, h2]
  refine ⟨fun z hz => ?_, rfl⟩
  rcases List.mem_append.1 hz with hz | hz
  · exact h1 z hz
  · rw [List.mem_singleton.1 hz]; exact hx
theorem InsI.ends {x : Nat} {l o : List Nat} {b : Bool} (h : InsI x l l.length b o) : (if b = true then o else o ++ [x]) = insN x l := by
  cases b with
  | true =>
    have := (h.yes rfl).2
    rw [List.take_length] at this
    exact this
  | false =>
    obtain ⟨h1, h2⟩ := h.no rfl
    rw [List.take_length] at h1 h2
    rw [insN_not h1, h2]
    rfl
structure ONs (w : World) (base : Nat) (v : Value) (l : List Nat) : Prop where mk ::
  out : w.ownsRow base 3 1 v l.length (nats l)
structure NsAt (w : World) (v : Value) (l : List Nat) : Prop where mk ::
  out : ∃ A c, v = .slice A l.length c ∧ Rd w A (nats l) ∧ Spotless A
theorem ONs.ns {w : World} {base : Nat} {v : Value} {l : List Nat} (h : ONs w base v l) : NsAt w v l := by
  have hr := h.out
  rcases h.out.2 with ⟨e, h0⟩ | ⟨g, cap, cur, e, hb, hh, hle, hm, hs, ht⟩
  · subst e
    exact ⟨none, 0, by rw [h0], own_rd hr, fun a e => by cases e⟩
  · subst e
    exact ⟨some ⟨g, 0, none⟩, cap, rfl, own_rd hr, fun a e => by injection e with e; subst e; rfl⟩
set_option maxRecDepth 100000 in
set_option maxHeartbeats 8000000 in
theorem insert_any (A : Option Addr) (cc : Nat) (l : List Nat) (x : Nat) (w : World) (h : Rd w A (nats l)) (hs : Spotless A) (hl : l.length ≤ 1099511627776) :
    Calls Tryz.prog 215 #[.slice A l.length cc, .int .i64 x] w fun e w' => ∃ v, e = .returned v ∧ ONs w' w.heap.size v (insN x l) ∧ Keep Nil w w' := by
  obtain ⟨i1, hi1, hz0, hz1, hz2⟩ := info_parts info_int9
  have HR := Hid.intro_ h
  obtain ⟨N, hN⟩ : ∃ N, N = l.length := ⟨_, rfl⟩
  rw [← hN] at hl ⊢
  have HN := Hid.intro_ hN
  clear h hN
  go_enter Tryz.func215, Tryz.ntmps215
  go_wp2
  go_loopw [5, 6, 7] (fun s bv i wz => ∃ (q n : Nat) (b : Bool) (o : List Nat) (v : Value), q ≤ N ∧ v = s ∧ bv = .bool b ∧ i = .int .i64 q ∧ n = o.length ∧ (n ≤ q + 1 ∧ (b = false → n ≤ q)) ∧ Hid (InsI x l q b o) ∧ Hid (wz.ownsRow w.heap.size 3 1 v n (nats o)) ∧ Hid (Keep Nil w wz)) (fun _ _ i _ => N - (intOf i).toNat)
  case atStart => exact ⟨0, 0, false, [], _, Nat.zero_le _, rfl, rfl, rfl, rfl, ⟨by omega, fun _ => by omega⟩, Hid.intro_ (InsI.start x l), Hid.intro_ (World.ownsRow_nil _ _ _ _), Hid.intro_ (Keep.refl _ _)⟩
  case round =>
    obtain ⟨q, n, b, o, v, hqm, rfl, rfl, rfl, hno, ⟨hnq, hnf⟩, HI, HO, HK⟩ := hrel
    have HNO := Hid.intro_ hno
    have HNF := Hid.intro_ hnf
    clear hnf
    obtain ⟨Av, cv, hv⟩ := own_form HO.out
    subst hv
    clear hno
    have hsz := HK.out.size
    by_cases hlq : q < N
    · obtain ⟨y, hy⟩ : ∃ y, l[q]? = some y := ⟨_, List.getElem?_eq_getElem (by have := HN.out; omega)⟩
      obtain ⟨g, o1, hAe, p0⟩ := nat_at (HR.out.keep HK.out (fun _ _ _ h => h)) hy hs
      subst hAe
      have HY := Hid.intro_ hy
      have hqi : (q : Int) < (N : Int) := by omega
      have hq0 : (0 : Int) ≤ (q : Int) := by omega
      clear hy
      cases b with
      | true =>
        have hpg := p0
        go_wp2_with (at_builtin; refine wpList_append_own_at _ rfl (.tmp 28) (.tmp 33) 68 rfl w.heap.size 3 i1 (.int .i64 0) 1 8 Tryz.underlying68 hi1 hz0 hz1 hz2 rfl (by decide) (.slice Av n cv) n (nats o) (by simp [Act.eval]) (own_keep HO.out ((Keep.refl Nil _).alloc _) (fun g _ h => h)) ⟨wr.heap.size, 0, none⟩ 1 1 [.int .i64 (y : Int)] (by simp [Act.eval]) rfl (one_new _ _ _) (by simp [Value.oneCell']) (by unfold maxLen; omega) (by omega) (by simp; omega) ?_; intro s1 w1 ho1 hg1 _ hs1)
        have k1 : Keep Nil w w1 := keep_own (HK.out.alloc _) (own_keep HO.out ((Keep.refl Nil _).alloc _) (fun g _ h => h)) (Nat.le_refl _) (Keep.of_grown hg1)
        go_roundw
        case rel => exact ⟨q + 1, n + 1, true, o ++ [y], s1, by omega, rfl, rfl, by go_num, by rw [List.length_append, HNO.out]; rfl, ⟨by omega, fun h => by cases h⟩, Hid.intro_ (HI.out.done HY.out), Hid.intro_ (by rw [nats_app]; exact ho1), Hid.intro_ k1⟩
        case measure => simp [intOf]; omega
      | false =>
        by_cases hxy : x < y
        · have h2 : decide ((x : Int) < (y : Int)) = true := decide_eq_true (by omega)
          have HXY := Hid.intro_ hxy
          go_wp2_with (first
            | (at_builtin; refine wpList_append_own_at _ rfl (.tmp 24) (.tmp 26) 68 rfl w.heap.size 3 i1 (.int .i64 0) 1 8 Tryz.underlying68 hi1 hz0 hz1 hz2 rfl (by decide) (.slice Av n cv) n (nats o) (by simp [Act.eval]) (own_keep HO.out ((Keep.refl Nil _).alloc _) (fun g _ h => h)) ⟨wr.heap.size, 0, none⟩ 1 1 [.int .i64 (x : Int)] (by simp [Act.eval]) rfl (one_new _ _ _) (by simp [Value.oneCell']) (by unfold maxLen; omega) (by omega) (by simp; omega) ?_; intro s1 w1 ho1 hg1 _ hs1
               have k1 : Keep Nil w w1 := keep_own (HK.out.alloc _) (own_keep HO.out ((Keep.refl Nil _).alloc _) (fun g _ h => h)) (Nat.le_refl _) (Keep.of_grown hg1)
               obtain ⟨A1, c1, hv1⟩ := own_form ho1
               subst hv1
               have HO1 := Hid.intro_ ho1
               have HK1 := Hid.intro_ k1
               obtain ⟨g2, o2, hA2, p2⟩ := nat_at (HR.out.keep k1 (fun _ _ _ h => h)) HY.out hs
               injection hA2 with hA2
               injection hA2 with hA2 hA3
               subst hA2 hA3
               have hsz1 := k1.size
               clear ho1 k1 hg1 hs1)
            | (at_builtin; refine wpList_append_own_at _ rfl (.tmp 28) (.tmp 33) 68 rfl w.heap.size 3 i1 (.int .i64 0) 1 8 Tryz.underlying68 hi1 hz0 hz1 hz2 rfl (by decide) (.slice A1 (n + 1) c1) (n + 1) (nats o ++ [.int .i64 (x : Int)]) (by simp [Act.eval]) (own_keep HO1.out ((Keep.refl Nil _).alloc _) (fun g _ h => h)) ⟨w1.heap.size, 0, none⟩ 1 1 [.int .i64 (y : Int)] (by simp [Act.eval]) rfl (one_new _ _ _) (by simp [Value.oneCell']) (by unfold maxLen; omega) (by omega) (by simp; omega) ?_; intro s2 w2 ho2 hg2 _ hs2))
          have k2 : Keep Nil w w2 := keep_own (HK1.out.alloc _) (own_keep HO1.out ((Keep.refl Nil _).alloc _) (fun g _ h => h)) (Nat.le_refl _) (Keep.of_grown hg2)
          go_roundw
          case rel => exact ⟨q + 1, n + 1 + 1, true, o ++ [x] ++ [y], s2, by omega, rfl, rfl, by go_num, by rw [List.length_append, List.length_append, HNO.out]; rfl, ⟨by have := HNF.out rfl; omega, fun h => by cases h⟩, Hid.intro_ (HI.out.here HY.out HXY.out), Hid.intro_ (by rw [nats_app, nats_app]; exact ho2), Hid.intro_ k2⟩
          case measure => simp [intOf]; omega
        · have h2 : decide ((x : Int) < (y : Int)) = false := decide_eq_false (by omega)
          have HXY := Hid.intro_ hxy
          go_wp2_with (at_builtin; refine wpList_append_own_at _ rfl (.tmp 28) (.tmp 33) 68 rfl w.heap.size 3 i1 (.int .i64 0) 1 8 Tryz.underlying68 hi1 hz0 hz1 hz2 rfl (by decide) (.slice Av n cv) n (nats o) (by simp [Act.eval]) (own_keep HO.out ((Keep.refl Nil _).alloc _) (fun g _ h => h)) ⟨wr.heap.size, 0, none⟩ 1 1 [.int .i64 (y : Int)] (by simp [Act.eval]) rfl (one_new _ _ _) (by simp [Value.oneCell']) (by unfold maxLen; omega) (by omega) (by simp; omega) ?_; intro s1 w1 ho1 hg1 _ hs1)
          have k1 : Keep Nil w w1 := keep_own (HK.out.alloc _) (own_keep HO.out ((Keep.refl Nil _).alloc _) (fun g _ h => h)) (Nat.le_refl _) (Keep.of_grown hg1)
          go_roundw
          case rel => exact ⟨q + 1, n + 1, false, o ++ [y], s1, by omega, rfl, rfl, by go_num, by rw [List.length_append, HNO.out]; rfl, ⟨by omega, fun _ => by have := HNF.out rfl; omega⟩, Hid.intro_ (HI.out.pass HY.out HXY.out), Hid.intro_ (by rw [nats_app]; exact ho1), Hid.intro_ k1⟩
          case measure => simp [intOf]; omega
    · obtain rfl : q = N := by omega
      have hend : (if b = true then o else o ++ [x]) = insN x l := by
        have := HI.out
        rw [HN.out] at this
        exact this.ends
      have HE := Hid.intro_ hend
      clear hend
      cases b with
      | true =>
        go_wp2_with fail
        go_ret
        refine ⟨_, rfl, ⟨?_⟩, HK.out⟩
        have he : o = insN x l := by have := HE.out; simpa using this
        rw [← he, ← HNO.out]
        exact HO.out
      | false =>
        go_wp2_with (at_builtin; refine wpList_append_own_at _ rfl (.tmp 37) (.tmp 39) 68 rfl w.heap.size 3 i1 (.int .i64 0) 1 8 Tryz.underlying68 hi1 hz0 hz1 hz2 rfl (by decide) (.slice Av n cv) n (nats o) (by simp [Act.eval]) (own_keep HO.out ((Keep.refl Nil _).alloc _) (fun g _ h => h)) ⟨wr.heap.size, 0, none⟩ 1 1 [.int .i64 (x : Int)] (by simp [Act.eval]) rfl (one_new _ _ _) (by simp [Value.oneCell']) (by unfold maxLen; omega) (by omega) (by simp; omega) ?_; intro s1 w1 ho1 hg1 _ hs1)
        have k1 : Keep Nil w w1 := keep_own (HK.out.alloc _) (own_keep HO.out ((Keep.refl Nil _).alloc _) (fun g _ h => h)) (Nat.le_refl _) (Keep.of_grown hg1)
        go_ret
        refine ⟨_, rfl, ⟨?_⟩, k1⟩
        have he : o ++ [x] = insN x l := by have := HE.out; simpa using this
        rw [← he, nats_app, List.length_append, ← HNO.out]
        exact ho1
end
end Go.Proofs.YtadipinnbehhhaaGreatDoor
namespace Go.Proofs.YtadipinnbehhhaaGreatDoor
open Go.RowKit

theorem iwrap (n : Int) : IntKind.i64.wrap n = (n + 9223372036854775808) % 18446744073709551616 - 9223372036854775808 := by
  simp [IntKind.wrap, IntKind.bits, IntKind.signed]
  omega
theorem iwrap_low {n : Nat} (h : n < 9223372036854775808) : IntKind.i64.wrap (n : Int) = n := by
  rw [iwrap]
  omega
theorem i64_xor_nat (a b : Nat) (ha : a < 9223372036854775808) (hb : b < 9223372036854775808) : bits .xor .i64 (a : Int) (b : Int) = ((a ^^^ b : Nat) : Int) := by
  have hx : a ^^^ b < 2 ^ 63 := Nat.xor_lt_two_pow (by omega) (by omega)
  show IntKind.i64.wrap ((BitVec.ofInt 64 (a : Int) ^^^ BitVec.ofInt 64 (b : Int)).toNat : Int) = _
  rw [BitVec.toNat_xor, ofInt_u64 a (by omega), ofInt_u64 b (by omega)]
  exact iwrap_low (by omega)
theorem i64_or_nat (a b : Nat) (ha : a < 9223372036854775808) (hb : b < 9223372036854775808) : bits .or .i64 (a : Int) (b : Int) = ((a ||| b : Nat) : Int) := by
  have hx : a ||| b < 2 ^ 63 := Nat.or_lt_two_pow (by omega) (by omega)
  show IntKind.i64.wrap ((BitVec.ofInt 64 (a : Int) ||| BitVec.ofInt 64 (b : Int)).toNat : Int) = _
  rw [BitVec.toNat_or, ofInt_u64 a (by omega), ofInt_u64 b (by omega)]
  exact iwrap_low (by omega)
theorem i64_and_nat (a b : Nat) (ha : a < 9223372036854775808) (hb : b < 9223372036854775808) : bits .and .i64 (a : Int) (b : Int) = ((a &&& b : Nat) : Int) := by
  have hx : a &&& b < 2 ^ 63 := Nat.and_lt_two_pow _ (by omega)
  show IntKind.i64.wrap ((BitVec.ofInt 64 (a : Int) &&& BitVec.ofInt 64 (b : Int)).toNat : Int) = _
  rw [BitVec.toNat_and, ofInt_u64 a (by omega), ofInt_u64 b (by omega)]
  exact iwrap_low (by omega)
theorem pow_small {j : Nat} (h : j ≤ 16) : 2 ^ j ≤ 65536 := Nat.pow_le_pow_right (n := 2) (by omega) h
theorem shl_one {j : Nat} (h : j ≤ 16) : IntKind.i64.wrap (2 ^ j : Int) = ((2 ^ j : Nat) : Int) := by
  have := pow_small h
  have e : (2 ^ j : Int) = ((2 ^ j : Nat) : Int) := by simp
  rw [e]
  exact iwrap_low (by omega)
end Go.Proofs.YtadipinnbehhhaaGreatDoor
