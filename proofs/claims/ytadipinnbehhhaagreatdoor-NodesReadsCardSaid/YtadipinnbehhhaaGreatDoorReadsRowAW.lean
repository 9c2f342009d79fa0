/- NodesReads: the law's input, opened. -/
import Derived.Test.YtadipinnbehhhaaGreatDoorReadsRowAV
namespace Go.Proofs.YtadipinnbehhhaaGreatDoor
open Go.ChangeShapes Go.WideShapes Go.ChangeAt Go.WideMaps Go.WideElems Go.RowKit Go.Deep

theorem arr_num {H : Type} {W : World} {sp : Nat → Bool} {hd : Bool} {t : TypeId} {k : IntKind} {n : Nat} {cs : List Value} {x : DataW H × List MemPlace} {enc : TypeId × Value → H} {o : Nat} (ht : Tryz.prog.underlying t = some (.int k)) (h : DataW.trod enc Tryz.prog W 0 sp hd n t ((cs.drop o).take 1) = some x) :
    ∃ y, cs[o]? = some (.int k y) ∧ k.min ≤ y ∧ y ≤ k.max := by
  obtain ⟨y, h1, _, h3⟩ := DataW.trod_int ht h
  refine ⟨y, ?_, wf_range h3⟩
  have := congrArg (·[0]?) h1
  simp only [List.getElem?_take, List.getElem?_drop] at this
  simpa using this
theorem rec_of {H : Type} {enc : TypeId × Value → H} {W : World} {sp : Nat → Bool} {hd : Bool} {a : Addr} {n : Nat} {cs : List Value} {x : DataW H × List MemPlace} (hc : W.cells? 0 a 4 = some cs) (ht : DataW.trod enc Tryz.prog W 0 sp hd n 111 cs = some x) :
    ∃ q : R4, (∀ (j : Nat) (u : Value), (rcCells [q])[j]? = some u → W.cell? (a.add j) = some u) ∧ q.Ok := by
  have kc : Tryz.prog.cellsOf 43 = 1 := by kernel_rfl
  obtain ⟨xs, m, _, _, _, hl, hat2⟩ := DataW.trod_array Tryz.underlying111 ht
  obtain ⟨_, hcl, hat⟩ := World.cells?_some hc
  simp only [kc, Nat.mul_one] at hat2
  have get : ∀ i, i < 4 → ∃ y : Nat, cs[i]? = some (.int .u64 y) ∧ y < 18446744073709551616 := fun i hi => by
    have h0 := hat2 i (by omega)
    rw [List.getElem?_eq_getElem (show i < xs.length by omega)] at h0
    obtain ⟨y, h1, h2, h3⟩ := arr_num Tryz.underlying43 h0
    have h2 : 0 ≤ y := h2
    have h3 : y ≤ 18446744073709551615 := h3
    refine ⟨y.toNat, ?_, by omega⟩
    rw [h1, show ((y.toNat : Nat) : Int) = y by omega]
  obtain ⟨x0, e0, l0⟩ := get 0 (by omega)
  obtain ⟨x1, e1, l1⟩ := get 1 (by omega)
  obtain ⟨x2, e2, l2⟩ := get 2 (by omega)
  obtain ⟨x3, e3, l3⟩ := get 3 (by omega)
  refine ⟨⟨x0, x1, x2, x3⟩, fun j u hu => ?_, ⟨l0, l1, l2, l3⟩⟩
  match j with
  | 0 => exact (hat 0 (by omega)).trans (e0.trans hu)
  | 1 => exact (hat 1 (by omega)).trans (e1.trans hu)
  | 2 => exact (hat 2 (by omega)).trans (e2.trans hu)
  | 3 => exact (hat 3 (by omega)).trans (e3.trans hu)
  | j + 4 => simp [rcCells, R4.ws] at hu
theorem recs_list {W : World} {a : Addr} : ∀ (len : Nat), (∀ i, i < len → ∃ q : R4, (∀ (j : Nat) (u : Value), (rcCells [q])[j]? = some u → W.cell? ((a.add (i * 4)).add j) = some u) ∧ q.Ok) →
    ∃ L : List R4, L.length = len ∧ (∀ q ∈ L, q.Ok) ∧ ∀ (j : Nat) (u : Value), (rcCells L)[j]? = some u → W.cell? (a.add j) = some u
  | 0, _ => ⟨[], rfl, fun q hq => by simp at hq, fun j u hu => by simp [rcCells] at hu⟩
  | len + 1, h => by
    obtain ⟨sc, h1, h2, h3⟩ := recs_list len (fun i hi => h i (by omega))
    obtain ⟨q, hq, hok⟩ := h len (by omega)
    refine ⟨sc ++ [q], by simp [h1], fun r hr => ?_, fun j u hu => ?_⟩
    · rcases List.mem_append.1 hr with hr | hr
      · exact h2 r hr
      · rw [List.mem_singleton.1 hr]; exact hok
    · rw [rcCells_app] at hu
      by_cases hj : j < (rcCells sc).length
      · rw [List.getElem?_append_left hj] at hu
        exact h3 j u hu
      · rw [List.getElem?_append_right (by omega)] at hu
        have := hq _ u hu
        rw [Addr.add_add] at this
        rw [rcCells_len, h1] at this hj
        rwa [show len * 4 + (j - 4 * len) = j by omega] at this
theorem rd_in {W : World} {A : Option Addr} {xs : List Value} (h : Rd W A xs) (hne : xs ≠ []) : ∀ a, A = some a → a.spot = none ∧ a.block < W.heap.size := by
  intro a e
  obtain ⟨g, o, e2⟩ := rd_at h hne
  rw [e] at e2
  injection e2 with e2
  subst e2
  obtain ⟨u, hu⟩ : ∃ u, xs[0]? = some u := ⟨_, List.getElem?_eq_getElem (List.length_pos_iff.2 hne)⟩
  obtain ⟨ad, e3, hc⟩ := h _ _ hu
  rw [e] at e3
  injection e3 with e3
  subst e3
  rw [add_at] at hc
  exact ⟨rfl, cell_lt hc⟩
set_option maxRecDepth 100000 in
/-- Records, opened. -/
theorem recs_of {H : Type} {enc : TypeId × Value → H} {W : World} {cs : List Value} {n : Nat} {x : DataW H × List MemPlace} (h : DataW.trod enc Tryz.prog W 0 (fun _ => true) true n 47 cs = some x) :
    ∃ (A : Option Addr) (cap : Nat) (L : List R4), cs = [.slice A L.length cap] ∧ Rd W A (rcCells L) ∧ (∀ q ∈ L, q.Ok) ∧ L.length ≤ cap := by
  rcases open_slice Tryz.underlying47 h with ⟨e, _⟩ | ⟨a, len, cap, m, n', D, Pl, e, _, hl, _, hm, _, hi⟩
  · exact ⟨none, 0, [], e, Rd.nil _ _, fun q hq => by simp at hq, Nat.le_refl _⟩
  · have kc4 : Tryz.prog.cellsOf 111 = 4 := by kernel_rfl
    obtain ⟨L, h1, h2, h3⟩ := recs_list (W := W) (a := a) len (fun i hil => by
      obtain ⟨cs', hc, ht⟩ := hi i (by rw [hm]; simp; omega)
      rw [kc4] at hc
      exact rec_of hc ht)
    exact ⟨some a, cap, L, by rw [h1]; exact e, fun j u hu => ⟨a, rfl, h3 j u hu⟩, h2, by omega⟩
set_option maxRecDepth 100000 in
/-- A case, opened. -/
theorem case_of {H : Type} {enc : TypeId × Value → H} {W : World} {v : Value} {d : DataW H} {p : List MemPlace} {base : Nat} (hv : Value.okWide Tryz.prog W .any base 67 v) (h : DataW.Trod enc Tryz.prog W 0 (fun _ => true) true 67 v d p) :
    ∃ (A : Option Addr) (cap : Nat) (L : List R4) (b : Int), v = .agg #[.slice A L.length cap, .int .i64 b] ∧ Rd W A (rcCells L) ∧ (∀ q ∈ L, q.Ok) ∧ L.length ≤ cap ∧ (-9223372036854775808 ≤ b ∧ b ≤ 9223372036854775807) := by
  have kc : Tryz.prog.cellsOf 67 = 2 := by kernel_rfl
  have kcs : Tryz.prog.cellsOf 47 = 1 := by kernel_rfl
  have kci : Tryz.prog.cellsOf 3 = 1 := by kernel_rfl
  obtain ⟨cs, rfl, hsz⟩ := okWide_struct Tryz.underlying67 hv
  rw [kc] at hsz
  obtain ⟨n, hn⟩ := h
  obtain ⟨y0, y1, m, _, _, h0, h1⟩ := trod_struct2 Tryz.underlying67 hn
  simp only [Value.cells, kcs, kci] at h0 h1
  obtain ⟨l⟩ := cs
  match l, hsz with
  | [u0, u1], _ =>
    obtain ⟨A, cap, L, e, hr, ho, hc⟩ := recs_of h0
    obtain ⟨b, e1, hb⟩ := arr_num (o := 1) Tryz.underlying3 h1
    have e2 : [u0] = [Value.slice A L.length cap] := e
    obtain rfl : u0 = Value.slice A L.length cap := (List.cons.inj e2).1
    obtain rfl : u1 = Value.int .i64 b := Option.some.inj e1
    exact ⟨A, cap, L, b, rfl, hr, ho, hc, hb⟩
theorem ints_list {W : World} {a : Addr} : ∀ (len : Nat), (∀ i, i < len → ∃ x : Int, W.cell? (a.add i) = some (.int .i64 x)) →
    ∃ si : List Int, si.length = len ∧ ∀ (j : Nat) (u : Value), (si.map fun x => Value.int .i64 x)[j]? = some u → W.cell? (a.add j) = some u
  | 0, _ => ⟨[], rfl, fun j u hu => by simp at hu⟩
  | len + 1, h => by
    obtain ⟨si, h1, h3⟩ := ints_list len (fun i hi => h i (by omega))
    obtain ⟨x, hx⟩ := h len (by omega)
    refine ⟨si ++ [x], by simp [h1], fun j u hu => ?_⟩
    rw [List.map_append] at hu
    by_cases hj : j < si.length
    · rw [List.getElem?_append_left (by simpa using hj)] at hu
      exact h3 j u hu
    · rw [List.getElem?_append_right (by simp; omega)] at hu
      have hl := (List.getElem?_eq_some_iff.1 hu).1
      simp at hl
      obtain rfl : j = len := by omega
      simp [h1] at hu
      rw [hx, hu]
set_option maxRecDepth 100000 in
/-- Numbers, opened. -/
theorem ints_of {H : Type} {enc : TypeId × Value → H} {W : World} {v : Value} {d : DataW H} {p : List MemPlace} {base : Nat} (hv : Value.okWide Tryz.prog W .any base 68 v) (h : DataW.Trod enc Tryz.prog W 0 (fun _ => true) true 68 v d p) :
    ∃ (A : Option Addr) (cap : Nat) (si : List Int), v = .slice A si.length cap ∧ Rd W A (si.map fun x => .int .i64 x) ∧ si.length ≤ 9223372036854775807 := by
  obtain ⟨A, len, cap, rfl⟩ := okWide_slice Tryz.underlying68 hv
  obtain ⟨n, hn⟩ := h
  rcases open_slice Tryz.underlying68 hn with ⟨e, _⟩ | ⟨a, len', cap', m, n', D, Pl, e, _, hl, hmx, hm, _, hi⟩
  · simp only [Value.cells] at e
    injection e with e
    injection e with e1 e2 e3
    subst e1 e2 e3
    exact ⟨none, 0, [], rfl, Rd.nil _ _, by decide⟩
  · simp only [Value.cells] at e
    injection e with e
    injection e with e1 e2 e3
    subst e1 e2 e3
    have kc1 : Tryz.prog.cellsOf 3 = 1 := by kernel_rfl
    obtain ⟨si, h1, h3⟩ := ints_list (W := W) (a := a) len (fun i hil => by
      obtain ⟨cs', hc, ht⟩ := hi i (by rw [hm]; simp; omega)
      rw [kc1, Nat.mul_one] at hc
      obtain ⟨_, hcl, hat⟩ := World.cells?_some hc
      obtain ⟨y, hy, _, _⟩ := DataW.trod_int Tryz.underlying3 ht
      have := hat 0 (by omega)
      rw [hy] at this
      rw [show (a.add i).add 0 = a.add i by rw [Addr.add_add]; rfl] at this
      exact ⟨y, this⟩)
    exact ⟨some a, cap, si, by rw [h1], fun j u hu => ⟨a, rfl, h3 j u hu⟩, by rw [h1]; unfold maxLen at hmx; omega⟩
end Go.Proofs.YtadipinnbehhhaaGreatDoor
