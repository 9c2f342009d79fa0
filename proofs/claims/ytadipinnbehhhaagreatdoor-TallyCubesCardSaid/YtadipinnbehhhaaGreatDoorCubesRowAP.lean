/- Parts of the proof: CubP FnP. -/
import Derived.Test.YtadipinnbehhhaaGreatDoorCubesRowAO
namespace Go.Proofs.YtadipinnbehhhaaGreatDoor
open Go.RowKit

def lvN (p : Nat) : Nat := (sL p).toNat
def cubesN (P : List N3) : Nat → Nat → List Int → List (List Int)
  | 0, _, _ => []
  | f + 1, p, t => if sF p = true then (if sV p = true then [t] else []) else match P.find? (fun n => n.self == p) with
    | none => []
    | some n => cubesN P f n.low (t.set (lvN p) 48) ++ cubesN P f n.high (t.set (lvN p) 49)
def runN3 (P : List N3) (g : N3 → Bool) : Nat → Nat → List Int → List Int
  | 0, _, t => t
  | f + 1, p, t => if sF p = true then t else match P.find? (fun n => n.self == p) with
    | none => t
    | some n => runN3 P g f (if g n = true then n.high else n.low) (t.set (lvN p) (if g n = true then 49 else 48))
def turnN (P : List N3) (old : List Int) : Nat → Nat → Int → Int
  | 0, _, a => a
  | f + 1, p, a => if sF p = true then a else match P.find? (fun n => n.self == p) with
    | none => a
    | some n => turnN P old f (if old.getD (lvN p) 0 = 49 then n.high else n.low) (if old.getD (lvN p) 0 = 48 ∧ ¬ n.high = 9223372036854775808 then (lvN p : Int) else a)
def lowG (n : N3) : Bool := decide (n.low = 9223372036854775808)
def turnG (old : List Int) (τ : Int) (n : N3) : Bool := if (lvN n.self : Int) < τ then decide (old.getD (lvN n.self) 0 = 49) else if (lvN n.self : Int) = τ then true else lowG n
def okN (P : List N3) (old : List Int) (τ : Int) : Nat → Nat → Prop
  | 0, _ => True
  | f + 1, p => if sF p = true then True else match P.find? (fun n => n.self == p) with
    | none => True
    | some n => ((lvN p : Int) < τ → old.getD (lvN p) 0 = 48 ∨ old.getD (lvN p) 0 = 49) ∧ okN P old τ f (if turnG old τ n = true then n.high else n.low)
structure Fu (p f : Nat) : Prop where
  one : 1 ≤ f
  up : sF p = false → 65537 ≤ lvN p + f
section
variable {d : Dg} {p f : Nat} {t : List Int}
theorem lvN_sL (p : Nat) : (lvN p : Int) = sL p := by
  have := sL_lt p
  unfold lvN
  omega
theorem Fu.start (d : Dg) : Fu d.r 65537 := ⟨by omega, fun _ => by omega⟩
theorem Fu.kid {n : N3} {k : Nat} (h : Fu n.self (f + 1)) (hs : sF n.self = false) (hk : sF k = false → sL n.self < sL k) : Fu k f := by
  have h1 := h.up hs
  have h2 := sL_lt n.self
  have e1 := lvN_sL n.self
  refine ⟨by omega, fun hf => ?_⟩
  have e2 := lvN_sL k
  have := hk hf
  omega
structure NodeAt (d : Dg) (n : N3) : Prop where
  mem : n ∈ d.P
  inn : sF n.self = false
  lo : sF n.low = false → sL n.self < sL n.low
  hi : sF n.high = false → sL n.self < sL n.high
  lol : Leads d n.low
  hil : Leads d n.high
  ne : ¬ n.low = n.high
  lv : lvN n.self < d.v
  find : d.P.find? (fun x => x.self == n.self) = some n
theorem NodeAt.of (h : DgOk d) {i : Nat} {n : N3} (hn : d.P[i]? = some n) : NodeAt d n := by
  have hm := List.mem_of_getElem? hn
  have hN := h.rows.node hm
  have hin := h.rows.inn hm
  unfold isN at hN
  simp only [Bool.and_eq_true, Bool.not_eq_true', decide_eq_false_iff_not] at hN
  have hs : sF n.self = false := by
    unfold sIn at hin
    simp only [Bool.and_eq_true, Bool.not_eq_true'] at hin
    exact hin.1
  have hlt : sL n.self < (d.v : Int) := by
    have := hN.1.1.1.1
    unfold nOk at this
    simp only [Bool.and_eq_true, decide_eq_true_eq] at this
    exact this.2
  have e := lvN_sL n.self
  exact ⟨hm, hs, fun hf => rU_level hN.1.2 hf, fun hf => rU_level hN.2 hf, (h.closed n hm).1, (h.closed n hm).2, hN.1.1.2, by omega, h.rows.find_at hn⟩
theorem lead_node (h : DgOk d) (hl : Leads d p) (hs : sF p = false) : ∃ n, NodeAt d n ∧ n.self = p := by
  rcases hl with h1 | h1
  · rw [hs] at h1; cases h1
  · obtain ⟨i, n, _, hn, hp, _⟩ := findL_some h1
    exact ⟨n, NodeAt.of h hn, hp⟩
theorem cubes_leaf {P : List N3} (hs : sF p = true) : cubesN P (f + 1) p t = if sV p = true then [t] else [] := by
  show (if sF p = true then _ else _) = _
  rw [if_pos hs]
theorem cubes_node {n : N3} (h : NodeAt d n) : cubesN d.P (f + 1) n.self t = cubesN d.P f n.low (t.set (lvN n.self) 48) ++ cubesN d.P f n.high (t.set (lvN n.self) 49) := by
  show (if sF n.self = true then _ else _) = _
  rw [if_neg (by rw [h.inn]; simp), h.find]
theorem run_leaf {P : List N3} {g : N3 → Bool} (hs : sF p = true) : runN3 P g f p t = t := by
  cases f with
  | zero => rfl
  | succ f =>
    show (if sF p = true then _ else _) = _
    rw [if_pos hs]
theorem run_node {n : N3} {g : N3 → Bool} (h : NodeAt d n) : runN3 d.P g (f + 1) n.self t = runN3 d.P g f (if g n = true then n.high else n.low) (t.set (lvN n.self) (if g n = true then 49 else 48)) := by
  show (if sF n.self = true then _ else _) = _
  rw [if_neg (by rw [h.inn]; simp), h.find]
theorem turn_leaf {P : List N3} {old : List Int} {a : Int} (hs : sF p = true) : turnN P old f p a = a := by
  cases f with
  | zero => rfl
  | succ f =>
    show (if sF p = true then _ else _) = _
    rw [if_pos hs]
theorem turn_node {n : N3} {old : List Int} {a : Int} (h : NodeAt d n) : turnN d.P old (f + 1) n.self a = turnN d.P old f (if old.getD (lvN n.self) 0 = 49 then n.high else n.low) (if old.getD (lvN n.self) 0 = 48 ∧ ¬ n.high = 9223372036854775808 then (lvN n.self : Int) else a) := by
  show (if sF n.self = true then _ else _) = _
  rw [if_neg (by rw [h.inn]; simp), h.find]
theorem ok_leaf {P : List N3} {old : List Int} {τ : Int} (hs : sF p = true) : okN P old τ f p := by
  cases f with
  | zero => trivial
  | succ f =>
    show (if sF p = true then _ else _)
    rw [if_pos hs]
    trivial
theorem ok_node {n : N3} {old : List Int} {τ : Int} (h : NodeAt d n) : okN d.P old τ (f + 1) n.self ↔ ((lvN n.self : Int) < τ → old.getD (lvN n.self) 0 = 48 ∨ old.getD (lvN n.self) 0 = 49) ∧ okN d.P old τ f (if turnG old τ n = true then n.high else n.low) := by
  show (if sF n.self = true then _ else _) ↔ _
  rw [if_neg (by rw [h.inn]; simp), h.find]
theorem ok_far {old : List Int} {τ : Int} (ok : DgOk d) : ∀ (f p : Nat), Leads d p → (sF p = false → τ < (lvN p : Int)) → okN d.P old τ f p
  | 0, _, _, _ => trivial
  | f + 1, p, hl, hτ => by
    cases hs : sF p with
    | true => exact ok_leaf hs
    | false =>
      obtain ⟨n, hn, rfl⟩ := lead_node ok hl hs
      have h1 := hτ hs
      refine (ok_node hn).2 ⟨fun h => by omega, ?_⟩
      have e1 := lvN_sL n.self
      split
      · exact ok_far ok f _ hn.hil (fun hf => by have := hn.hi hf; have e2 := lvN_sL n.high; omega)
      · exact ok_far ok f _ hn.lol (fun hf => by have := hn.lo hf; have e2 := lvN_sL n.low; omega)
theorem sF_cases (p : Nat) : sF p = true ↔ p = 9223372036854775808 ∨ p = 9223372036854775809 := by
  unfold sF
  simp [Bool.or_eq_true]
theorem sF_false_leaf : sF 9223372036854775808 = true := by decide
structure CubT (d : Dg) (p : Nat) (t x : List Int) : Prop where
  len : x.length = t.length
  low : ∀ k, (sF p = false → k < lvN p) → x.getD k 0 = t.getD k 0
theorem getD_set_ne {t : List Int} {i k : Nat} {a : Int} (h : ¬ i = k) : (t.set i a).getD k 0 = t.getD k 0 := by
  rw [List.getD_eq_getElem?_getD, List.getElem?_set_ne h, ← List.getD_eq_getElem?_getD]
theorem getD_set_eq {t : List Int} {i : Nat} {a : Int} (h : i < t.length) : (t.set i a).getD i 0 = a := by
  rw [List.getD_eq_getElem?_getD, List.getElem?_set_self h]
  rfl
theorem cubes_text (ok : DgOk d) : ∀ (f p : Nat) (t : List Int), Leads d p → ∀ x ∈ cubesN d.P f p t, CubT d p t x
  | 0, p, t, _, x, hx => by simp [cubesN] at hx
  | f + 1, p, t, hl, x, hx => by
    cases hs : sF p with
    | true =>
      rw [cubes_leaf hs] at hx
      split at hx
      · rw [List.mem_singleton.1 hx]
        exact ⟨rfl, fun k _ => rfl⟩
      · simp at hx
    | false =>
      obtain ⟨n, hn, rfl⟩ := lead_node ok hl hs
      rw [cubes_node hn] at hx
      rcases List.mem_append.1 hx with h1 | h1
      · have ih := cubes_text ok f n.low _ hn.lol x h1
        refine ⟨by rw [ih.len, List.length_set], fun k hk => ?_⟩
        have hk := hk hs
        rw [ih.low k (fun hf => by have := hn.lo hf; have e1 := lvN_sL n.low; have e2 := lvN_sL n.self; omega)]
        exact getD_set_ne (by omega)
      · have ih := cubes_text ok f n.high _ hn.hil x h1
        refine ⟨by rw [ih.len, List.length_set], fun k hk => ?_⟩
        have hk := hk hs
        rw [ih.low k (fun hf => by have := hn.hi hf; have e1 := lvN_sL n.high; have e2 := lvN_sL n.self; omega)]
        exact getD_set_ne (by omega)
theorem cubes_at (ok : DgOk d) {n : N3} (hn : NodeAt d n) {k : Nat} (hk : Leads d k) (hl : sF k = false → sL n.self < sL k) {a : Int} {x : List Int} (ht : t.length = d.v) (hx : x ∈ cubesN d.P f k (t.set (lvN n.self) a)) : x.getD (lvN n.self) 0 = a := by
  have h := cubes_text ok f k _ hk x hx
  rw [h.low _ (fun hf => by have := hl hf; have e1 := lvN_sL k; have e2 := lvN_sL n.self; omega)]
  exact getD_set_eq (by rw [ht]; exact hn.lv)
theorem run_same (ok : DgOk d) {g g' : N3 → Bool} : ∀ (f p : Nat) (t : List Int), Leads d p → (∀ n, (sF p = false → lvN p ≤ lvN n.self) → g n = g' n) → runN3 d.P g f p t = runN3 d.P g' f p t
  | 0, p, t, _, _ => rfl
  | f + 1, p, t, hl, hg => by
    cases hs : sF p with
    | true => rw [run_leaf hs, run_leaf hs]
    | false =>
      obtain ⟨n, hn, rfl⟩ := lead_node ok hl hs
      have key : ∀ c t', Leads d c → (sF c = false → sL n.self < sL c) → runN3 d.P g f c t' = runN3 d.P g' f c t' := fun c t' hc hcs => by
        cases hk : sF c with
        | true => rw [run_leaf hk, run_leaf hk]
        | false =>
          refine run_same ok f c t' hc (fun m hm => hg m (fun _ => ?_))
          have h1 := hcs hk
          have h2 := hm hk
          have e1 := lvN_sL n.self
          have e2 := lvN_sL c
          omega
      rw [run_node hn, run_node hn, hg n (fun _ => Nat.le_refl _)]
      split
      · exact key _ _ hn.hil hn.hi
      · exact key _ _ hn.lol hn.lo
theorem cubes_false (P : List N3) (f : Nat) (t : List Int) : cubesN P f 9223372036854775808 t = [] := by
  cases f with
  | zero => rfl
  | succ f => rw [cubes_leaf sF_false_leaf, if_neg (by decide)]
theorem cubes_first (ok : DgOk d) : ∀ (f p : Nat) (t : List Int), Fu p f → Leads d p → ¬ p = 9223372036854775808 → ∃ rest, cubesN d.P f p t = runN3 d.P lowG f p t :: rest
  | 0, p, t, hf, _, _ => by have := hf.one; omega
  | f + 1, p, t, hf, hl, hp => by
    cases hs : sF p with
    | true =>
      rw [cubes_leaf hs, run_leaf hs]
      rcases (sF_cases p).1 hs with h1 | h1
      · exact absurd h1 hp
      · subst h1
        exact ⟨[], by rw [if_pos (by decide)]⟩
    | false =>
      obtain ⟨n, hn, rfl⟩ := lead_node ok hl hs
      rw [cubes_node hn, run_node hn]
      by_cases hlow : n.low = 9223372036854775808
      · have hg : lowG n = true := decide_eq_true hlow
        obtain ⟨rest, e⟩ := cubes_first ok f n.high (t.set (lvN n.self) 49) (hf.kid hs hn.hi) hn.hil (fun h => hn.ne (hlow.trans h.symm))
        rw [if_pos hg, if_pos hg, hlow, cubes_false, List.nil_append]
        exact ⟨rest, e⟩
      · have hg : ¬ lowG n = true := by unfold lowG; simpa using hlow
        obtain ⟨rest, e⟩ := cubes_first ok f n.low (t.set (lvN n.self) 48) (hf.kid hs hn.lo) hn.lol hlow
        rw [if_neg hg, if_neg hg, e]
        exact ⟨_, rfl⟩
theorem cubes_one (P : List N3) (hs : sF p = true) : ∀ i old, (cubesN P f p t)[i]? = some old → i = 0 ∧ (cubesN P f p t)[1]? = none := by
  intro i old h
  cases f with
  | zero => simp [cubesN] at h
  | succ f =>
    rw [cubes_leaf hs] at h ⊢
    split at h
    · rename_i hv
      rw [if_pos hv]
      have := (List.getElem?_eq_some_iff.1 h).1
      simp only [List.length_singleton] at this
      exact ⟨by omega, rfl⟩
    · simp at h
structure CubN (d : Dg) (f p : Nat) (t old : List Int) (nx : Option (List Int)) : Prop where
  some_ : ∀ new, nx = some new → ∃ τ : Int, (∀ a, turnN d.P old f p a = τ) ∧ 0 ≤ τ ∧ (sF p = false → (lvN p : Int) ≤ τ) ∧ runN3 d.P (turnG old τ) f p t = new ∧ okN d.P old τ f p
  none_ : nx = none → ∀ a, turnN d.P old f p a = a
theorem cubes_next (ok : DgOk d) : ∀ (f p : Nat) (t : List Int), Fu p f → Leads d p → t.length = d.v → ∀ i old, (cubesN d.P f p t)[i]? = some old → CubN d f p t old (cubesN d.P f p t)[i + 1]?
  | 0, p, t, hf, _, _, _, _, _ => by have := hf.one; omega
  | f + 1, p, t, hf, hl, ht, i, old, hi => by
    cases hs : sF p with
    | true =>
      obtain ⟨rfl, h1⟩ := cubes_one d.P hs i old hi
      refine ⟨fun new hn => ?_, fun _ a => turn_leaf hs⟩
      rw [h1] at hn
      cases hn
    | false =>
      obtain ⟨n, hn, rfl⟩ := lead_node ok hl hs
      have hts : ∀ a, (t.set (lvN n.self) a).length = d.v := fun a => by rw [List.length_set]; exact ht
      rw [cubes_node hn] at hi ⊢
      obtain ⟨A, hA⟩ : ∃ A, A = cubesN d.P f n.low (t.set (lvN n.self) 48) := ⟨_, rfl⟩
      obtain ⟨B, hB⟩ : ∃ B, B = cubesN d.P f n.high (t.set (lvN n.self) 49) := ⟨_, rfl⟩
      have iA := cubes_next ok f n.low (t.set (lvN n.self) 48) (hf.kid hs hn.lo) hn.lol (hts _)
      have iB := cubes_next ok f n.high (t.set (lvN n.self) 49) (hf.kid hs hn.hi) hn.hil (hts _)
      rw [← hA] at hi iA ⊢
      rw [← hB] at hi iB ⊢
      rcases Nat.lt_or_ge i A.length with hc | hc
      · rw [List.getElem?_append_left hc] at hi
        have h48 : old.getD (lvN n.self) 0 = 48 := cubes_at ok hn hn.lol hn.lo ht (by rw [← hA]; exact List.mem_of_getElem? hi)
        have iN := iA i old hi
        rcases Nat.lt_or_ge (i + 1) A.length with hc2 | hc2
        · rw [List.getElem?_append_left hc2]
          have hlow : sF n.low = false := by
            cases hk : sF n.low with
            | false => rfl
            | true =>
              have h1 := cubes_one d.P hk (f := f) (t := t.set (lvN n.self) 48) i old (by rw [← hA]; exact hi)
              rw [← hA] at h1
              have h2 := List.getElem?_eq_none_iff.1 h1.2
              omega
          refine ⟨fun new hnew => ?_, fun hnone => ?_⟩
          · obtain ⟨τ, h1, h2, h3, h4, h4k⟩ := iN.some_ new hnew
            have h3 := h3 hlow
            have h5 := hn.lo hlow
            have e1 := lvN_sL n.self
            have e2 := lvN_sL n.low
            refine ⟨τ, fun a => ?_, h2, fun _ => by omega, ?_⟩
            · rw [turn_node hn, h48, if_neg (by omega)]
              exact h1 _
            · have hg : turnG old τ n = false := by
                unfold turnG
                rw [if_pos (by omega), h48]
                rfl
              refine ⟨by rw [run_node hn, hg]; exact h4, (ok_node hn).2 ⟨fun _ => .inl h48, by rw [hg]; exact h4k⟩⟩
          · rw [List.getElem?_eq_getElem hc2] at hnone
            cases hnone
        · have hi1 : i + 1 = A.length := by omega
          have hno : A[i + 1]? = none := List.getElem?_eq_none_iff.2 hc2
          have hT := iN.none_ hno
          rw [List.getElem?_append_right hc2, hi1, Nat.sub_self]
          by_cases hh : n.high = 9223372036854775808
          · have hB0 : B = [] := by rw [hB, hh, cubes_false]
            refine ⟨fun new hnew => by rw [hB0] at hnew; simp at hnew, fun _ a => ?_⟩
            rw [turn_node hn, h48, if_neg (by omega), if_neg (fun h => h.2 hh)]
            exact hT a
          · obtain ⟨rest, e⟩ := cubes_first ok f n.high (t.set (lvN n.self) 49) (hf.kid hs hn.hi) hn.hil hh
            rw [← hB] at e
            refine ⟨fun new hnew => ⟨lvN n.self, fun a => ?_, by omega, fun _ => Int.le_refl _, ?_⟩, fun hnone => by rw [e] at hnone; simp at hnone⟩
            · rw [turn_node hn, h48, if_neg (by omega), if_pos ⟨rfl, hh⟩]
              exact hT _
            · have hg : turnG old (lvN n.self) n = true := by
                unfold turnG
                rw [if_neg (by omega), if_pos rfl]
              refine ⟨?_, (ok_node hn).2 ⟨fun h => by omega, ?_⟩⟩
              rotate_left
              · rw [hg]
                exact ok_far ok f n.high hn.hil (fun hf => by have := hn.hi hf; have e1 := lvN_sL n.self; have e2 := lvN_sL n.high; omega)
              rw [run_node hn, hg]
              rw [e] at hnew
              simp only [List.getElem?_cons_zero, Option.some.injEq] at hnew
              rw [← hnew]
              show runN3 d.P _ f n.high _ = _
              cases hk : sF n.high with
              | true => rw [run_leaf hk, run_leaf hk]; rfl
              | false =>
                refine run_same ok f n.high _ hn.hil (fun m hm => ?_)
                have h1 := hm hk
                have h2 := hn.hi hk
                have e1 := lvN_sL n.self
                have e2 := lvN_sL n.high
                unfold turnG
                rw [if_neg (by omega), if_neg (by omega)]
      · rw [List.getElem?_append_right hc] at hi
        rw [List.getElem?_append_right (by omega), show i + 1 - A.length = i - A.length + 1 by omega]
        have h49 : old.getD (lvN n.self) 0 = 49 := cubes_at ok hn hn.hil hn.hi ht (by rw [← hB]; exact List.mem_of_getElem? hi)
        have iN := iB (i - A.length) old hi
        refine ⟨fun new hnew => ?_, fun hnone a => ?_⟩
        · have hhi : sF n.high = false := by
            cases hk : sF n.high with
            | false => rfl
            | true =>
              have h1 := cubes_one d.P hk (f := f) (t := t.set (lvN n.self) 49) _ old (by rw [← hB]; exact hi)
              rw [← hB] at h1
              rw [h1.1, h1.2] at hnew
              cases hnew
          obtain ⟨τ, h1, h2, h3, h4, h4k⟩ := iN.some_ new hnew
          have h3 := h3 hhi
          have h5 := hn.hi hhi
          have e1 := lvN_sL n.self
          have e2 := lvN_sL n.high
          refine ⟨τ, fun a => ?_, h2, fun _ => by omega, ?_⟩
          · rw [turn_node hn, h49, if_pos rfl]
            exact h1 _
          · have hg : turnG old τ n = true := by
              unfold turnG
              rw [if_pos (by omega), h49]
              rfl
            refine ⟨by rw [run_node hn, hg]; exact h4, (ok_node hn).2 ⟨fun _ => .inr h49, by rw [hg]; exact h4k⟩⟩
        · rw [turn_node hn, h49, if_pos rfl, if_neg (by omega)]
          exact iN.none_ hnone a
def blankL (v : Nat) : List Int := List.replicate v 45
def Dg.cubes (d : Dg) : List (List Int) := cubesN d.P 65537 d.r (blankL d.v)
def Dg.firstC (d : Dg) : List Int := runN3 d.P lowG 65537 d.r (blankL d.v)
def Dg.turnC (d : Dg) (old : List Int) : Int := turnN d.P old 65537 d.r (-1)
def Dg.nextC (d : Dg) (old : List Int) (τ : Int) : List Int := runN3 d.P (turnG old τ) 65537 d.r (blankL d.v)
theorem turnG_less (old : List Int) (n : N3) : turnG old (-1) n = lowG n := by
  unfold turnG
  rw [if_neg (by omega), if_neg (by omega)]
theorem DgOk.none_c (h : d.r = 9223372036854775808) : d.cubes = [] := by
  unfold Dg.cubes
  rw [h, cubes_false]
theorem DgOk.first_c (ok : DgOk d) (h : ¬ d.r = 9223372036854775808) : d.cubes[0]? = some d.firstC := by
  obtain ⟨rest, e⟩ := cubes_first ok 65537 d.r (blankL d.v) (Fu.start d) ok.root h
  unfold Dg.cubes
  rw [e]
  rfl
theorem DgOk.next_c (ok : DgOk d) {i : Nat} {old : List Int} (hi : d.cubes[i]? = some old) :
    (∀ new, d.cubes[i + 1]? = some new → 0 ≤ d.turnC old ∧ d.nextC old (d.turnC old) = new ∧ okN d.P old (d.turnC old) 65537 d.r) ∧ (d.cubes[i + 1]? = none → d.turnC old = -1) := by
  have h := cubes_next ok 65537 d.r (blankL d.v) (Fu.start d) ok.root (by simp [blankL]) i old hi
  refine ⟨fun new hn => ?_, fun hn => h.none_ hn _⟩
  obtain ⟨τ, h1, h2, _, h4, h4k⟩ := h.some_ new hn
  have e : d.turnC old = τ := h1 _
  rw [e]
  exact ⟨h2, h4, h4k⟩
end
def Txt3 (t : List Int) : Prop := ∀ x ∈ t, x = 45 ∨ x = 48 ∨ x = 49
theorem Txt3.set {t : List Int} (h : Txt3 t) {i : Nat} {a : Int} (ha : a = 45 ∨ a = 48 ∨ a = 49) : Txt3 (t.set i a) := fun x hx => by
  rcases List.mem_or_eq_of_mem_set hx with h1 | h1
  · exact h x h1
  · rw [h1]; exact ha
theorem Txt3.blank (v : Nat) : Txt3 (blankL v) := fun _ hx => .inl (List.mem_replicate.1 hx).2
theorem Txt3.run {P : List N3} {g : N3 → Bool} : ∀ (f p : Nat) {t : List Int}, Txt3 t → Txt3 (runN3 P g f p t)
  | 0, _, _, h => h
  | f + 1, p, t, h => by
    unfold runN3
    split
    · exact h
    · split
      · exact h
      · refine Txt3.run f _ (h.set ?_)
        split
        · exact .inr (.inr rfl)
        · exact .inr (.inl rfl)
theorem take_two {α : Type} (A B out : List α) (n : Nat) : out ++ (A ++ B).take (n - out.length) = (out ++ A.take (n - out.length)) ++ B.take (n - (out ++ A.take (n - out.length)).length) := by
  rw [List.take_append, List.length_append, List.length_take, List.append_assoc]
  congr 3
  omega
end Go.Proofs.YtadipinnbehhhaaGreatDoor
namespace Go.Proofs.YtadipinnbehhhaaGreatDoor
open Go.RowKit

structure FnN where
  n : Nat
  at_ : List Nat
  bits : List Bool
def insN (x : Nat) : List Nat → List Nat
  | [] => [x]
  | a :: l => if x < a then x :: a :: l else a :: insN x l
def makeL (n : Nat) (l : List Nat) : List Int → List Nat
  | [] => l
  | a :: r => if l.length < 16 then (if 0 ≤ a ∧ a < n ∧ ¬ a.toNat ∈ l then makeL n (insN a.toNat l) r else makeL n l r) else l
def tabN (m : Nat) (bits : List Bool) : List Bool := (List.range m).map fun i => bits.getD i false
def makeN (n : Nat) (at_ : List Int) (bits : List Bool) : FnN := ⟨n, makeL n [] at_, tabN (2 ^ (makeL n [] at_).length) bits⟩
structure FnOk (f : FnN) : Prop where
  rise : List.Pairwise (· < ·) f.at_
  lt : ∀ x ∈ f.at_, x < f.n
  le : f.at_.length ≤ 16
  len : f.bits.length = 2 ^ f.at_.length
theorem insN_len (x : Nat) : ∀ l, (insN x l).length = l.length + 1
  | [] => rfl
  | a :: l => by
    unfold insN
    split
    · rfl
    · simp [insN_len x l]
theorem insN_mem {x y : Nat} : ∀ {l : List Nat}, y ∈ insN x l ↔ y = x ∨ y ∈ l
  | [] => by simp [insN]
  | a :: l => by
    unfold insN
    split
    · simp
    · simp only [List.mem_cons, insN_mem (l := l)]
      constructor
      · rintro (h | h | h)
        · exact .inr (.inl h)
        · exact .inl h
        · exact .inr (.inr h)
      · rintro (h | h | h)
        · exact .inr (.inl h)
        · exact .inl h
        · exact .inr (.inr h)
theorem insN_rise {x : Nat} : ∀ {l : List Nat}, List.Pairwise (· < ·) l → ¬ x ∈ l → List.Pairwise (· < ·) (insN x l)
  | [], _, _ => List.pairwise_singleton _ _
  | a :: l, h, hx => by
    have h1 := List.pairwise_cons.1 h
    unfold insN
    split
    · rename_i hlt
      refine List.pairwise_cons.2 ⟨fun y hy => ?_, h⟩
      rcases List.mem_cons.1 hy with rfl | hy
      · exact hlt
      · exact Nat.lt_trans hlt (h1.1 y hy)
    · rename_i hlt
      refine List.pairwise_cons.2 ⟨fun y hy => ?_, insN_rise h1.2 (fun hm => hx (List.mem_cons_of_mem _ hm))⟩
      rcases insN_mem.1 hy with rfl | hy
      · have : ¬ y = a := fun e => hx (by rw [e]; exact List.mem_cons_self)
        omega
      · exact h1.1 y hy
theorem makeL_ok {n : Nat} : ∀ (r : List Int) (l : List Nat), List.Pairwise (· < ·) l → (∀ x ∈ l, x < n) → l.length ≤ 16 → List.Pairwise (· < ·) (makeL n l r) ∧ (∀ x ∈ makeL n l r, x < n) ∧ (makeL n l r).length ≤ 16
  | [], l, h1, h2, h3 => ⟨h1, h2, h3⟩
  | a :: r, l, h1, h2, h3 => by
    unfold makeL
    split
    · rename_i hl
      split
      · rename_i ha
        refine makeL_ok r _ (insN_rise h1 ha.2.2) (fun x hx => ?_) (by rw [insN_len]; omega)
        rcases insN_mem.1 hx with rfl | hx
        · omega
        · exact h2 x hx
      · exact makeL_ok r l h1 h2 h3
    · exact ⟨h1, h2, h3⟩
theorem makeN_ok (n : Nat) (at_ : List Int) (bits : List Bool) : FnOk (makeN n at_ bits) := by
  obtain ⟨h1, h2, h3⟩ := makeL_ok (n := n) at_ [] List.Pairwise.nil (fun x hx => by simp at hx) (by simp)
  exact ⟨h1, h2, h3, by simp [makeN, tabN]⟩
def placeN (f : FnN) (x : Nat) : Option Nat := f.at_.findIdx? (fun a => a == x)
def hangsJ (bits : List Bool) (j : Nat) : Bool := (List.range bits.length).any fun i => !(bits.getD i false == bits.getD (i ^^^ 2 ^ j) false)
def hangsN (f : FnN) (x : Nat) : Bool := match placeN f x with
  | none => false
  | some j => hangsJ f.bits j
def suppN (f : FnN) : List Nat := f.at_.filter (hangsN f)
def indexK (f : FnN) (l : List Nat) (i : Nat) : Nat → Nat
  | 0 => 0
  | k + 1 => match l[k]? with
    | none => indexK f l i k
    | some x => match placeN f x with
      | none => indexK f l i k
      | some p => if i.testBit k = true then indexK f l i k ||| 2 ^ p else indexK f l i k
def indexN (f : FnN) (l : List Nat) (i : Nat) : Nat := indexK f l i l.length
def overN (f : FnN) (l : List Nat) : FnN := ⟨f.n, l, (List.range (2 ^ l.length)).map fun i => f.bits.getD (indexN f l i) false⟩
def slimN (f : FnN) : FnN := overN f (suppN f)
section
variable {f : FnN}
theorem placeN_some {x j : Nat} (h : placeN f x = some j) : f.at_[j]? = some x ∧ j < f.at_.length := by
  unfold placeN at h
  rw [List.findIdx?_eq_some_iff_getElem] at h
  obtain ⟨hj, h1, _⟩ := h
  have : f.at_[j] = x := by simpa using h1
  exact ⟨by rw [List.getElem?_eq_getElem hj, this], hj⟩
theorem placeN_mem (_h : FnOk f) {x : Nat} (hx : x ∈ f.at_) : ∃ j, placeN f x = some j := by
  cases hp : placeN f x with
  | some j => exact ⟨j, rfl⟩
  | none =>
    unfold placeN at hp
    rw [List.findIdx?_eq_none_iff] at hp
    have := hp x hx
    simp at this
theorem placeN_at (h : FnOk f) {x j : Nat} (hx : f.at_[j]? = some x) : placeN f x = some j := by
  obtain ⟨i, hi⟩ := placeN_mem h (List.mem_of_getElem? hx)
  obtain ⟨h1, h2⟩ := placeN_some hi
  obtain ⟨h3, e3⟩ := List.getElem?_eq_some_iff.1 hx
  obtain ⟨_, e1⟩ := List.getElem?_eq_some_iff.1 h1
  rcases Nat.lt_trichotomy i j with hc | hc | hc
  · have := List.pairwise_iff_getElem.1 h.rise i j h2 h3 hc
    omega
  · rw [hi, hc]
  · have := List.pairwise_iff_getElem.1 h.rise j i h3 h2 hc
    omega
theorem supp_sub (f : FnN) : ∀ x ∈ suppN f, x ∈ f.at_ := fun _ hx => (List.mem_filter.1 hx).1
theorem slim_ok (h : FnOk f) : FnOk (slimN f) := by
  refine ⟨h.rise.sublist List.filter_sublist, fun x hx => h.lt x (supp_sub f x hx), Nat.le_trans (List.length_filter_le _ _) h.le, ?_⟩
  simp [slimN, overN]
theorem testBit_two (p k : Nat) : (2 ^ p).testBit k = decide (p = k) := Nat.testBit_two_pow
theorem index_bit (h : FnOk f) {l : List Nat} (hl : ∀ x ∈ l, x ∈ f.at_) (i : Nat) : ∀ k j, (indexK f l i k).testBit j = true ↔ ∃ q x, q < k ∧ l[q]? = some x ∧ placeN f x = some j ∧ i.testBit q = true
  | 0, j => by simp [indexK]
  | k + 1, j => by
    have ih := index_bit h hl i k j
    unfold indexK
    cases hx : l[k]? with
    | none =>
      simp only
      rw [ih]
      constructor
      · rintro ⟨q, x, h1, h2⟩
        exact ⟨q, x, by omega, h2⟩
      · rintro ⟨q, x, h1, h2, h3⟩
        refine ⟨q, x, ?_, h2, h3⟩
        rcases Nat.lt_or_ge q k with h4 | h4
        · exact h4
        · have : q = k := by omega
          rw [this, hx] at h2
          cases h2
    | some x =>
      obtain ⟨p, hp⟩ := placeN_mem h (hl x (List.mem_of_getElem? hx))
      simp only [hp]
      split
      · rename_i hb
        rw [Nat.testBit_or, Bool.or_eq_true, ih, testBit_two, decide_eq_true_eq]
        constructor
        · rintro (⟨q, y, h1, h2⟩ | h1)
          · exact ⟨q, y, by omega, h2⟩
          · exact ⟨k, x, by omega, hx, by rw [hp, h1], hb⟩
        · rintro ⟨q, y, h1, h2, h3, h4⟩
          rcases Nat.lt_or_ge q k with h5 | h5
          · exact .inl ⟨q, y, h5, h2, h3, h4⟩
          · have : q = k := by omega
            subst this
            rw [hx] at h2
            injection h2 with h2
            subst h2
            rw [hp] at h3
            injection h3 with h3
            exact .inr h3
      · rename_i hb
        rw [ih]
        constructor
        · rintro ⟨q, y, h1, h2⟩
          exact ⟨q, y, by omega, h2⟩
        · rintro ⟨q, y, h1, h2, h3, h4⟩
          refine ⟨q, y, ?_, h2, h3, h4⟩
          rcases Nat.lt_or_ge q k with h5 | h5
          · exact h5
          · have : q = k := by omega
            rw [this] at h4
            exact absurd h4 hb
theorem hangs_not {bits : List Bool} {m j : Nat} (hlen : bits.length = 2 ^ m) (h : hangsJ bits j = false) {i : Nat} (hi : i < 2 ^ m) : bits.getD (i ^^^ 2 ^ j) false = bits.getD i false := by
  unfold hangsJ at h
  have := List.any_eq_false.1 h i (List.mem_range.2 (by omega))
  simp at this
  exact this.symm
def clr (i j : Nat) : Nat := if i.testBit j = true then i ^^^ 2 ^ j else i
theorem clr_bit (i j k : Nat) : (clr i j).testBit k = (i.testBit k && !decide (j = k)) := by
  unfold clr
  split
  · rename_i hb
    rw [Nat.testBit_xor, testBit_two]
    by_cases h : j = k
    · subst h; simp [hb]
    · simp [h]
  · rename_i hb
    by_cases h : j = k
    · subst h; simp [hb]
    · simp [h]
theorem clrs_bit : ∀ (K : List Nat) (i k : Nat), (K.foldl clr i).testBit k = (i.testBit k && !decide (k ∈ K))
  | [], i, k => by simp
  | j :: K, i, k => by
    rw [List.foldl_cons, clrs_bit K, clr_bit]
    by_cases h1 : j = k
    · subst h1; simp
    · have h2 : ¬ k = j := fun e => h1 e.symm
      simp [h1, h2]
theorem clrs_same {bits : List Bool} {m : Nat} (hlen : bits.length = 2 ^ m) : ∀ (K : List Nat) (i : Nat), i < 2 ^ m → (∀ j ∈ K, j < m ∧ hangsJ bits j = false) → bits.getD (K.foldl clr i) false = bits.getD i false
  | [], i, _, _ => rfl
  | j :: K, i, hi, hK => by
    have hj := hK j List.mem_cons_self
    have hlt : i ^^^ 2 ^ j < 2 ^ m := Nat.xor_lt_two_pow hi (Nat.pow_lt_pow_right (by omega) hj.1)
    have h1 : bits.getD (clr i j) false = bits.getD i false := by
      unfold clr
      split
      · exact hangs_not hlen hj.2 hi
      · rfl
    have h2 : clr i j < 2 ^ m := by
      unfold clr
      split
      · exact hlt
      · exact hi
    rw [List.foldl_cons, clrs_same hlen K _ h2 (fun k hk => hK k (List.mem_cons_of_mem _ hk)), h1]
theorem slim_hangs (h : FnOk f) (hne : ¬ (slimN f).at_ = []) : ∃ i, i < 2 ^ (slimN f).at_.length ∧ ¬ (slimN f).bits.getD i false = (slimN f).bits.getD (i ^^^ 1) false := by
  obtain ⟨S, hS⟩ : ∃ S, S = suppN f := ⟨_, rfl⟩
  have hne : ¬ S = [] := by rw [hS]; exact hne
  have hsub : ∀ x ∈ S, x ∈ f.at_ := by rw [hS]; exact supp_sub f
  obtain ⟨x0, T, hx0⟩ : ∃ x0 T, S = x0 :: T := by
    cases S with
    | nil => exact absurd rfl hne
    | cons a b => exact ⟨a, b, rfl⟩
  have hm0 : x0 ∈ suppN f := by rw [← hS, hx0]; exact List.mem_cons_self
  have hh := (List.mem_filter.1 hm0).2
  unfold hangsN at hh
  obtain ⟨j0, hj0⟩ := placeN_mem h (hsub x0 (by rw [hx0]; exact List.mem_cons_self))
  rw [hj0] at hh
  simp only at hh
  unfold hangsJ at hh
  obtain ⟨i, hi, hb⟩ := List.any_eq_true.1 hh
  rw [List.mem_range, h.len] at hi
  have hb : ¬ f.bits.getD i false = f.bits.getD (i ^^^ 2 ^ j0) false := by simpa using hb
  have hi2 : i ^^^ 2 ^ j0 < 2 ^ f.at_.length := Nat.xor_lt_two_pow hi (Nat.pow_lt_pow_right (by omega) (placeN_some hj0).2)
  -- the assignment to the levels that it hangs on
  have hex : ∀ i : Nat, ∃ u, u < 2 ^ S.length ∧ ∀ q, q < S.length → u.testBit q = (match S[q]? with | none => false | some x => match placeN f x with | none => false | some p => i.testBit p) := fun i => by
    have key : ∀ (L : List Bool), ∃ u, u < 2 ^ L.length ∧ ∀ q, q < L.length → u.testBit q = L.getD q false := by
      intro L
      induction L with
      | nil => exact ⟨0, by simp, fun q hq => by simp at hq⟩
      | cons b L ih =>
        obtain ⟨u, hu, hq⟩ := ih
        refine ⟨2 * u + b.toNat, ?_, fun q hq2 => ?_⟩
        · rw [List.length_cons, Nat.pow_succ]
          have : b.toNat ≤ 1 := by cases b <;> simp
          omega
        · cases q with
          | zero =>
            rw [Nat.testBit_zero]
            cases b <;> simp <;> omega
          | succ q =>
            have e : (2 * u + b.toNat) / 2 = u := by cases b <;> simp <;> omega
            rw [Nat.testBit_succ, e, hq q (by simpa using hq2)]
            simp
    obtain ⟨u, hu, hq⟩ := key (S.map fun x => match placeN f x with | none => false | some p => i.testBit p)
    refine ⟨u, by simpa using hu, fun q hq2 => ?_⟩
    rw [hq q (by simpa using hq2), List.getD_eq_getElem?_getD, List.getElem?_map]
    cases S[q]? with
    | none => rfl
    | some x => rfl
  let K : List Nat := (List.range f.at_.length).filter fun j => !hangsJ f.bits j
  have hK : ∀ j ∈ K, j < f.at_.length ∧ hangsJ f.bits j = false := fun j hj => by
    have := List.mem_filter.1 hj
    exact ⟨List.mem_range.1 this.1, by simpa using this.2⟩
  -- the index of that assignment: the bits taken away
  have hidx : ∀ i u, i < 2 ^ f.at_.length → (∀ q, q < S.length → u.testBit q = (match S[q]? with | none => false | some x => match placeN f x with | none => false | some p => i.testBit p)) → indexN f S u = K.foldl clr i := fun i u hi hu => by
    refine Nat.eq_of_testBit_eq (fun k => ?_)
    rw [clrs_bit]
    refine Bool.eq_iff_iff.2 ?_
    unfold indexN
    rw [index_bit h hsub, Bool.and_eq_true, Bool.not_eq_true', decide_eq_false_iff_not]
    constructor
    · rintro ⟨q, x, hq, hx, hp, hb⟩
      have h1 := hu q hq
      rw [hx] at h1
      simp only [hp] at h1
      refine ⟨by rw [← h1]; exact hb, fun hk => ?_⟩
      have h2 := (hK k hk).2
      have hxm : x ∈ suppN f := by rw [← hS]; exact List.mem_of_getElem? hx
      have h3 := (List.mem_filter.1 hxm).2
      unfold hangsN at h3
      rw [hp] at h3
      simp only at h3
      rw [h2] at h3
      cases h3
    · rintro ⟨hb, hk⟩
      have hkl : k < f.at_.length := by
        rcases Nat.lt_or_ge k f.at_.length with h1 | h1
        · exact h1
        · have := Nat.testBit_lt_two_pow (Nat.lt_of_lt_of_le hi (Nat.pow_le_pow_right (by omega) h1))
          rw [this] at hb
          cases hb
      have hh : hangsJ f.bits k = true := by
        cases hc : hangsJ f.bits k with
        | true => rfl
        | false => exact absurd (List.mem_filter.2 ⟨List.mem_range.2 hkl, by simp [hc]⟩) hk
      have hpl := placeN_at h (List.getElem?_eq_getElem hkl)
      have hxm : f.at_[k] ∈ S := by
        rw [hS]
        refine List.mem_filter.2 ⟨List.getElem_mem hkl, ?_⟩
        unfold hangsN
        rw [hpl]
        exact hh
      obtain ⟨q, hq⟩ := List.getElem?_of_mem hxm
      have hql := (List.getElem?_eq_some_iff.1 hq).1
      have h1 := hu q hql
      rw [hq] at h1
      simp only [hpl] at h1
      exact ⟨q, _, hql, hq, hpl, by rw [h1]; exact hb⟩
  obtain ⟨u, hul, hu⟩ := hex i
  have hS0 : S[0]? = some x0 := by rw [hx0]; rfl
  have hSlen : 0 < S.length := by rw [hx0]; simp
  have hu2 : ∀ q, q < S.length → (u ^^^ 1).testBit q = (match S[q]? with | none => false | some x => match placeN f x with | none => false | some p => (i ^^^ 2 ^ j0).testBit p) := fun q hq => by
    have h1 := hu q hq
    obtain ⟨x, hx⟩ : ∃ x, S[q]? = some x := ⟨_, List.getElem?_eq_getElem hq⟩
    obtain ⟨p, hp⟩ := placeN_mem h (hsub x (List.mem_of_getElem? hx))
    rw [hx] at h1 ⊢
    simp only [hp] at h1 ⊢
    rw [Nat.testBit_xor, Nat.testBit_xor, h1, show (1 : Nat) = 2 ^ 0 from rfl, testBit_two, testBit_two]
    have : decide (0 = q) = decide (j0 = p) := by
      refine decide_eq_decide.2 ⟨fun e => ?_, fun e => ?_⟩
      · subst e
        rw [hS0] at hx
        injection hx with hx
        subst hx
        rw [hj0] at hp
        injection hp
      · subst e
        have h2 := (placeN_some hp).1
        have h3 := (placeN_some hj0).1
        rw [h2] at h3
        injection h3 with h3
        subst h3
        have hr : List.Pairwise (· < ·) S := by rw [hS]; exact h.rise.sublist List.filter_sublist
        rcases Nat.eq_zero_or_pos q with h4 | h4
        · exact h4.symm
        · have := List.pairwise_iff_getElem.1 hr 0 q hSlen hq h4
          obtain ⟨_, e1⟩ := List.getElem?_eq_some_iff.1 hx
          obtain ⟨_, e2⟩ := List.getElem?_eq_some_iff.1 hS0
          omega
    rw [this]
  have ul2 : u ^^^ 1 < 2 ^ S.length := Nat.xor_lt_two_pow hul (Nat.one_lt_two_pow (by omega))
  have e : ∀ v i', v < 2 ^ S.length → i' < 2 ^ f.at_.length → indexN f S v = K.foldl clr i' → (slimN f).bits.getD v false = f.bits.getD i' false := fun v i' hv hi' he => by
    unfold slimN overN
    rw [← hS]
    simp only
    rw [List.getD_eq_getElem?_getD, List.getElem?_map, List.getElem?_range hv]
    simp only [Option.map_some, Option.getD_some]
    rw [he, clrs_same h.len K i' hi' hK]
  refine ⟨u, by show u < 2 ^ (suppN f).length; rw [← hS]; exact hul, ?_⟩
  rw [e u i hul hi (hidx i u hi hu), e (u ^^^ 1) (i ^^^ 2 ^ j0) ul2 hi2 (hidx _ _ hi2 hu2)]
  exact hb
end
end Go.Proofs.YtadipinnbehhhaaGreatDoor
