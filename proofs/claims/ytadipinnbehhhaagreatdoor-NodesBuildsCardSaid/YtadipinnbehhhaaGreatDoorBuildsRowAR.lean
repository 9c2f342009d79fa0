/- What every row of this seat asks: the listed variables opened; a law's row from a walk that leaves all that was there as it was. What the rows of this seat share: numbers opened; the witness: the heap that the program's start leaves. NodesBuilds: the script, opened. -/
import Derived.Test.YtadipinnbehhhaaGreatDoorRows
import Derived.ProofKit
import Derived.LaidMore
import Derived.OpenShut
import Derived.LaidLaws
import Derived.Stop.Joined
import Derived.Stop.LaidErr
import Derived.Deep.Slices
import Derived.Test.YtadipinnbehhhaaGreatDoorBuildsRowAF
import Derived.Test.YtadipinnbehhhaaGreatDoorBuildsRowAQ
namespace Go.Proofs.YtadipinnbehhhaaGreatDoor
open Go.ChangeShapes Go.WideShapes Go.ChangeAt Go.WideMaps Go.WideElems Go.RowKit

theorem kOwn : ownKnob Tryz.prog.godebug = none := by kernel_rfl
theorem kOut : laidOutB Tryz.prog = true := by kernel_rfl
theorem kStar : "*" ++ "errors.errorString" = "*errors.errorString" := by decide
/-- That type's name has one row. -/
theorem kRow (u : TypeId) (h : Tryz.prog.typeName? 3 u = some "*errors.errorString") : u = 421 :=
  typeName_ptr_named (nm := "errors.errorString") (by rw [kStar]; kernel_rfl) (by kernel_rfl) (by decide) u (by rw [kStar]; exact h)
theorem kCellE : Tryz.prog.cellsOf 444 = 1 := by kernel_rfl
theorem kCellS : Tryz.prog.cellsOf 9 = 1 := by kernel_rfl

/-- Listed errors: the variable, its text. -/
def errList (l : List (String × List UInt8 × Nat)) : List (String × DataW Unit) := l.map fun x => (x.1, .iface "*errors.errorString" (.ptr (.agg [.lit (.string x.2.1)])))

set_option maxRecDepth 100000 in
theorem errs_of {W : World} : ∀ (l : List (String × List UInt8 × Nat)) (ps : List MemPlace),
    (∀ x ∈ l, Tryz.prog.globalNamed x.1 = some x.2.2 ∧ (Tryz.prog.globals[x.2.2]?).map (·.type) = some 295) → DataW.LaidVars Tryz.prog W (errList l) ps →
    (∀ b off, MemPlace.cell b off ∈ ps → (∃ c t, W.heap[b]? = some (.cells c t (0, 0))) ∧ ∀ u v, W.cell? ⟨b, off, none⟩ = some (.iface u v) → Value.okWide Tryz.prog W .any 0 u v) →
    ∃ bs : List Addr, bs.length = l.length ∧ (∀ (k : Nat) x a, l[k]? = some x → bs[k]? = some a → W.cell? ⟨x.2.2, 0, none⟩ = some (.iface 421 (.pointer (some a)))) ∧ (bs.map fun a => MemPlace.cell a.block a.off).Sublist ps
  | [], ps, _, _, _ => ⟨[], rfl, fun k x a h => by simp at h, List.nil_sublist _⟩
  | x :: l, ps, hg, h, hrows => by
    obtain ⟨g0, t0, cs0, f0, p0, q0, hg0, ht0, hv0, hd0, hr, e0⟩ := h
    obtain ⟨e1, e2⟩ := hg x (List.mem_cons_self ..)
    obtain rfl := Option.some.inj (e1.symm.trans hg0)
    obtain rfl := Option.some.inj (e2.symm.trans ht0)
    subst e0
    obtain ⟨l0⟩ := cs0
    have ok0 : ∀ u v, l0 = [.iface u v] → Value.okWide Tryz.prog W .any 0 u v := fun u v e => by
      subst e
      exact (hrows x.2.2 0 (by simp [MemPlace.row])).2 u v (by simpa using World.var?_cell hg0 hv0 0)
    obtain ⟨a0, s0, rfl, hc0, hs0, hz0, rfl⟩ := errorString_of_trod Tryz.underlying295 kRow Tryz.underlying421 Tryz.underlying444 rfl rfl Tryz.underlying9 kCellE kCellS hd0 ok0
    obtain ⟨bs, h1, h2, h3⟩ := errs_of l q0 (fun y hy => hg y (List.mem_cons_of_mem _ hy)) hr (fun b off hb => hrows b off (List.mem_append_right _ hb))
    refine ⟨a0 :: bs, by simp [h1], fun k y a hy ha => ?_, ?_⟩
    · match k with
      | 0 =>
        simp only [List.getElem?_cons_zero, Option.some.injEq] at hy ha
        subst hy ha
        simpa using World.var?_cell hg0 hv0 0
      | k + 1 => exact h2 k y a (by simpa using hy) (by simpa using ha)
    · rw [List.map_cons]
      refine (List.Sublist.append (l₁ := [_]) ?_ h3)
      rw [List.singleton_sublist]
      simp [MemPlace.row]

/-- A listed row of numbers. -/
theorem nums_of {W : World} {t e : TypeId} {n fuel : Nat} {k : IntKind} {cs : Array Value} {ns : List Int} {p : List MemPlace} (ht : Tryz.prog.underlying t = some (.array n e)) (he : Tryz.prog.underlying e = some (.int k)) (hc : Tryz.prog.cellsOf e = 1)
    (h : DataW.trod (fun _ => ()) Tryz.prog W 0 (fun _ => true) false fuel t cs.toList = some (.agg (ns.map fun x => .lit (.int k x)), p)) (i : Nat) (x : Int) (hx : ns[i]? = some x) : cs[i]? = some (.int k x) := by
  obtain ⟨xs, m, _, e1, _, hl, hat⟩ := DataW.trod_array ht h
  simp only [Prod.mk.injEq, DataW.agg.injEq] at e1
  have hlen := congrArg List.length e1.1
  simp only [List.length_map] at hlen
  have hi := (List.getElem?_eq_some_iff.1 hx).1
  have h1 := hat i (by omega)
  rw [hc, Nat.mul_one] at h1
  have h2 : xs[i]? = some (xs[i]'(by omega)) := List.getElem?_eq_getElem (by omega)
  rw [h2] at h1
  obtain ⟨y, hy1, hy2, _⟩ := DataW.trod_int he h1
  have h3 : (ns.map fun x => (DataW.lit (.int k x) : DataW Unit))[i]? = some (.lit (.int k x)) := by rw [List.getElem?_map, hx]; rfl
  rw [e1.1, List.getElem?_map, h2, hy2] at h3
  simp only [Option.map_some, Option.some.injEq, DataW.lit.injEq, Lit.int.injEq] at h3
  rw [h3.2] at hy1
  have h4 : (cs.toList.drop i)[0]? = some (.int k x) := by
    have := congrArg (·[0]?) hy1
    simpa [List.getElem?_take] using this
  rw [List.getElem?_drop] at h4
  simpa using h4

theorem kgH : Tryz.prog.globalNamed "strata/recs.halves" = some 11 := by kernel_rfl
theorem kgM : Tryz.prog.globalNamed "strata/recs.magic" = some 9 := by kernel_rfl
theorem ktH : (Tryz.prog.globals[11]?).map (·.type) = some 406 := by kernel_rfl
theorem ktM : (Tryz.prog.globals[9]?).map (·.type) = some 383 := by kernel_rfl
theorem kc32 : Tryz.prog.cellsOf 236 = 1 := by kernel_rfl
theorem kc8 : Tryz.prog.cellsOf 5 = 1 := by kernel_rfl

def nine : List (String × List UInt8 × Nat) :=
  [("strata/disk.errOff", [116, 104, 101, 32, 112, 111, 119, 101, 114, 32, 105, 115, 32, 111, 102, 102], 0), ("strata/disk.errName", [110, 111, 32, 110, 97, 109, 101], 1),
   ("strata/disk.errNoFile", [110, 111, 32, 115, 117, 99, 104, 32, 102, 105, 108, 101], 5), ("strata/disk.errExists", [116, 104, 101, 114, 101, 32, 105, 115, 32, 115, 117, 99, 104, 32, 97, 32, 102, 105, 108, 101], 2),
   ("strata/disk.errSealed", [115, 101, 97, 108, 101, 100], 4), ("strata/disk.errOpen", [110, 111, 116, 32, 115, 101, 97, 108, 101, 100], 6),
   ("strata/disk.errBlock", [110, 111, 32, 115, 117, 99, 104, 32, 98, 108, 111, 99, 107], 7), ("strata/disk.errFull", [110, 111, 32, 98, 108, 111, 99, 107, 32, 105, 115, 32, 102, 114, 101, 101], 8),
   ("strata/disk.errFault", [97, 32, 102, 97, 117, 108, 116], 3)]
theorem kNine : ∀ x ∈ nine, Tryz.prog.globalNamed x.1 = some x.2.2 ∧ (Tryz.prog.globals[x.2.2]?).map (·.type) = some 295 := by
  intro x hx
  simp only [nine, List.mem_cons, List.not_mem_nil, or_false] at hx
  rcases hx with rfl | rfl | rfl | rfl | rfl | rfl | rfl | rfl | rfl <;> exact ⟨by kernel_rfl, by kernel_rfl⟩
theorem nine_var : ∀ k, k < 9 → ∃ x, nine[k]? = some x ∧ x.2.2 = errVar k := by
  intro k hk
  match k with
  | 0 => exact ⟨_, rfl, rfl⟩
  | 1 => exact ⟨_, rfl, rfl⟩
  | 2 => exact ⟨_, rfl, rfl⟩
  | 3 => exact ⟨_, rfl, rfl⟩
  | 4 => exact ⟨_, rfl, rfl⟩
  | 5 => exact ⟨_, rfl, rfl⟩
  | 6 => exact ⟨_, rfl, rfl⟩
  | 7 => exact ⟨_, rfl, rfl⟩
  | 8 => exact ⟨_, rfl, rfl⟩

/-- The two tables and the nine errors, as they are listed. -/
def eleven : List (String × DataW Unit) := ("strata/recs.halves", Go.Proofs.YtadipinnbehhhaaGreatDoor.Rows.laid_strata_recs_halves) :: ("strata/recs.magic", Go.Proofs.YtadipinnbehhhaaGreatDoor.Rows.laid_strata_recs_magic) :: errList nine

theorem half_list : ∀ i, i < 16 → ([0, 498536548, 997073096, 651767980, 1994146192, 1802195444, 1303535960, 1342533948, 3988292384, 4027552580, 3604390888, 3412177804, 2607071920, 2262029012, 2685067896, 3183342108] : List Int)[i]? = some (half i : Int) := by decide +kernel

/-- What the listed variables give a walk. -/
theorem laid_gives {W : World} (h : laidMet Tryz.prog eleven W) : ∃ E, ErrsAt W E ∧ HalvesAt W ∧ MagicAt W := by
  obtain ⟨ps, ⟨g0, t0, cs0, f0, p0, q0, hg0, ht0, hv0, hd0, ⟨g1, t1, cs1, f1, p1, q1, hg1, ht1, hv1, hd1, hr, e1⟩, e0⟩, hnd, hrows⟩ := h
  obtain rfl := Option.some.inj (kgH.symm.trans hg0)
  obtain rfl := Option.some.inj (kgM.symm.trans hg1)
  obtain rfl := Option.some.inj (ktH.symm.trans ht0)
  obtain rfl := Option.some.inj (ktM.symm.trans ht1)
  have hq : ∀ x, x ∈ q1 → x ∈ ps := fun x hx => by rw [e0, e1]; exact List.mem_append_right _ (List.mem_append_right _ hx)
  have hsub : q1.Sublist ps := by rw [e0, e1]; exact (List.sublist_append_right _ _).trans (List.sublist_append_right _ _)
  obtain ⟨bs, h1, h2, h3⟩ := errs_of nine q1 kNine hr (fun b off hb => hrows b off (hq _ hb))
  have h9 : bs.length = 9 := h1
  have hnd2 : (bs.map fun a => MemPlace.cell a.block a.off).Nodup := (hnd.sublist hsub).sublist h3
  have hat : ∀ k, k < 9 → bs[k]? = some (bs.getD k ⟨0, 0, none⟩) := fun k hk => by
    rw [List.getD_eq_getElem?_getD, List.getElem?_eq_getElem (by omega)]
    rfl
  have hplace : ∀ k, k < 9 → MemPlace.cell (bs.getD k ⟨0, 0, none⟩).block (bs.getD k ⟨0, 0, none⟩).off ∈ ps := fun k hk => by
    refine hq _ (h3.mem ?_)
    exact List.mem_map.2 ⟨_, List.mem_of_getElem? (hat k hk), rfl⟩
  have hvar : ∀ k, k < 9 → W.cell? ⟨errVar k, 0, none⟩ = some (.iface 421 (.pointer (some (bs.getD k ⟨0, 0, none⟩)))) := fun k hk => by
    obtain ⟨x, hx, e⟩ := nine_var k hk
    rw [← e]
    exact h2 k x _ hx (hat k hk)
  refine ⟨fun k => bs.getD k ⟨0, 0, none⟩, ⟨hvar, fun k hk => cell_lt (hvar k hk), fun k hk => (hrows _ _ (hplace k hk)).1, fun j k hj hk hne e => ?_⟩, fun i hi => ?_, fun i x hx => ?_⟩
  · have a1 : (bs.map fun a => MemPlace.cell a.block a.off)[j]? = some (.cell (bs.getD j ⟨0, 0, none⟩).block (bs.getD j ⟨0, 0, none⟩).off) := by rw [List.getElem?_map, hat j hj]; rfl
    have a2 : (bs.map fun a => MemPlace.cell a.block a.off)[k]? = some (.cell (bs.getD j ⟨0, 0, none⟩).block (bs.getD j ⟨0, 0, none⟩).off) := by rw [List.getElem?_map, hat k hk, show bs.getD j ⟨0, 0, none⟩ = bs.getD k ⟨0, 0, none⟩ from e]; rfl
    exact hne (nodup_eq hnd2 a1 a2)
  · rw [World.var?_cell hg0 hv0 i]
    exact nums_of (ns := [0, 498536548, 997073096, 651767980, 1994146192, 1802195444, 1303535960, 1342533948, 3988292384, 4027552580, 3604390888, 3412177804, 2607071920, 2262029012, 2685067896, 3183342108]) Tryz.underlying406 Tryz.underlying236 kc32 hd0 i _ (half_list i hi)
  · rw [World.var?_cell hg1 hv1 i]
    exact nums_of (ns := [83, 84, 82, 65]) Tryz.underlying383 Tryz.underlying5 kc8 hd1 i x hx

/-- Data read as they did, where what they lie in is as it was. -/
theorem trodAll_stays {H : Type} {enc : TypeId × Value → H} {P : Program} (hl : laidOutB P = true) {W W' : World} {sp : Nat → Bool} : ∀ (ts : List TypeId) {vs : List Value} {ds : List (DataW H)} {ps : List MemPlace}, (∀ t ∈ ts, P.readableRec t = true ∧ t < P.types.size) →
    DataW.TrodAll enc P W 0 (fun _ => true) true ts vs ds ps → (∀ p ∈ ps, W.sameAt W' p) → (∀ p ∈ ps, sp p.block = true) → DataW.TrodAll enc P W' 0 sp true ts vs ds ps
  | [], vs, ds, ps, _, h, _, _ => by
    obtain ⟨rfl, rfl, rfl⟩ := trodAll_nil h
    exact h
  | t :: ts, vs, ds, ps, hr, h, hs, hp => by
    obtain ⟨v, vs', d, ds', p, q, rfl, rfl, rfl, hd, hrest⟩ := trodAll_cons h
    obtain ⟨h1, h2⟩ := hr t (List.mem_cons_self ..)
    exact ⟨p, q, Trod_stays hl h1 h2 hd (fun x hx => hs x (List.mem_append_left _ hx)) (fun x hx => hp x (List.mem_append_left _ hx)), trodAll_stays hl ts (fun t ht => hr t (List.mem_cons_of_mem _ ht)) hrest (fun x hx => hs x (List.mem_append_right _ hx)) (fun x hx => hp x (List.mem_append_right _ hx)), rfl⟩
/-- A law's row, from a walk that leaves all that was there as it was. -/
theorem law_post {H : Type} {enc : TypeId × Value → H} {f : Func} {s : ChangeSpec} {W W' : World} {args : Array Value} {ds : List (DataW H)} {before : List MemPlace} (hW : DataW.Whole enc Tryz.prog f.params.toList s.vars false W args.toList ds [] before) (hv : s.vars = [])
    (hA : DataW.TrodAll enc Tryz.prog W 0 (fun _ => true) true f.params.toList args.toList ds before) (hfn : s.fn H (ds ++ []) = { results := [.lit (.bool true)], args := ds }) (hr : ∀ t ∈ f.params.toList, Tryz.prog.readableRec t = true ∧ t < Tryz.prog.types.size) (hrt : f.resultTypes = #[4]) (k : Keep Nil W W') :
    s.post enc Tryz.prog f false true false false W args (.bool true) W' := by
  have hb : Below W.heap.size W W' := k.below (fun _ _ _ h => h) (Nat.le_refl _)
  have hlt : ∀ p ∈ before, p.block < W.heap.size := fun p hp => hW.lt p hp
  refine ⟨ds, [], before, [], before, [], hW, ?_, ?_, ?_, World.keptBut_mono (fun p hp => ⟨hp, .inr (by simpa using hp)⟩) (hb.frame (· ∈ before)), fun h => by cases h⟩
  · rw [hfn, hrt]
    exact trodAll_mk1 (shut_bool Tryz.underlying4 true)
  · rw [hfn]
    exact trodAll_stays kOut _ hr hA (fun p hp => hb.same (hlt p hp)) (fun p hp => by simpa using hlt p hp)
  · rw [hv, hfn]
    rfl
end Go.Proofs.YtadipinnbehhhaaGreatDoor
namespace Go.Proofs.YtadipinnbehhhaaGreatDoor
open Go.ChangeShapes Go.WideShapes Go.ChangeAt Go.WideMaps Go.WideElems Go.RowKit Go.Deep

/-- One number's bounds. -/
theorem wf_range {k : IntKind} {n : Int} (h : (Lit.int k n).wf = true) : k.min ≤ n ∧ n ≤ k.max := by simpa [Lit.wf] using h
theorem field_num {H : Type} {W : World} {sp : Nat → Bool} {hd : Bool} {t : TypeId} {k : IntKind} {n : Nat} {cs : List Value} {x : DataW H × List MemPlace} {enc : TypeId × Value → H} {o : Nat} (ht : Tryz.prog.underlying t = some (.int k)) (hc : Tryz.prog.cellsOf t = 1) (h : DataW.trod enc Tryz.prog W 0 sp hd n t ((cs.drop o).take (Tryz.prog.cellsOf t)) = some x) :
    ∃ y, cs[o]? = some (.int k y) ∧ k.min ≤ y ∧ y ≤ k.max := by
  rw [hc] at h
  obtain ⟨y, h1, _, h3⟩ := DataW.trod_int ht h
  refine ⟨y, ?_, ?_⟩
  · have := congrArg (·[0]?) h1
    simp only [List.getElem?_take, List.getElem?_drop] at this
    simpa using this
  · simpa [Lit.wf] using h3
set_option maxRecDepth 100000 in
/-- Two numbers, opened. -/
theorem two_of {H : Type} {enc : TypeId × Value → H} {W : World} {v : Value} {d : DataW H} {p : List MemPlace} {base : Nat} (hv : Value.okWide Tryz.prog W .any base 23 v) (h : DataW.Trod enc Tryz.prog W 0 (fun _ => true) true 23 v d p) :
    ∃ a b : Int, v = .agg #[.int .i64 a, .int .i64 b] ∧ (-9223372036854775808 ≤ a ∧ a ≤ 9223372036854775807) := by
  have kc : Tryz.prog.cellsOf 23 = 2 := by kernel_rfl
  have kci : Tryz.prog.cellsOf 3 = 1 := by kernel_rfl
  obtain ⟨cs, rfl, hsz⟩ : ∃ cs, v = .agg cs ∧ cs.size = Tryz.prog.cellsOf 23 := by
    unfold Value.okWide at hv
    rw [Tryz.underlying23] at hv
    obtain ⟨cs, e, h2, _⟩ := hv
    exact ⟨cs, e, h2⟩
  rw [kc] at hsz
  obtain ⟨n, hn⟩ := h
  obtain ⟨xs, m, _, _, _, hl, hat⟩ := DataW.trod_array Tryz.underlying23 hn
  simp only [Value.cells, kci] at hat
  have h0 := hat 0 (by omega)
  have h1 := hat 1 (by omega)
  rw [List.getElem?_eq_getElem (show 0 < xs.length by omega)] at h0
  rw [List.getElem?_eq_getElem (show 1 < xs.length by omega)] at h1
  obtain ⟨l⟩ := cs
  match l, hsz with
  | [x, y], _ =>
    obtain ⟨a, ha, _, hw⟩ := DataW.trod_int Tryz.underlying3 h0
    obtain ⟨b, hb, _, _⟩ := DataW.trod_int Tryz.underlying3 h1
    simp at ha hb
    subst ha hb
    exact ⟨a, b, rfl, (wf_range hw).1, (wf_range hw).2⟩

/-- The door's own heap meets the condition. -/
theorem door_met (os : Os) (args : Array Value) : laidMetH Tryz.prog eleven ((World.doorLaid Tryz.prog 210 os).forCall (fun _ _ => 0) ⟨#[], args, []⟩).memory :=
  laidMetH_of_parts3 (fuel := 8) (laidMet_of_run' 8 (by kernel_rfl) (by kernel_rfl)) (by kernel_rfl) (by kernel_rfl)
end Go.Proofs.YtadipinnbehhhaaGreatDoor
namespace Go.Proofs.YtadipinnbehhhaaGreatDoor
open Go.ChangeShapes Go.WideShapes Go.ChangeAt Go.WideMaps Go.WideElems Go.RowKit Go.Deep

theorem addCells_len : ∀ l : List AddC, (addCells l).length = 4 * l.length
  | [] => rfl
  | q :: l => by
    have e : addCells (q :: l) = .int .i64 q.kind :: .int .i64 q.level :: .int .u64 q.low :: .int .u64 q.high :: addCells l := rfl
    rw [e]
    simp only [List.length_cons, addCells_len l]
    omega
theorem addCells_snoc (l : List AddC) (q : AddC) : addCells (l ++ [q]) = addCells l ++ [.int .i64 q.kind, .int .i64 q.level, .int .u64 q.low, .int .u64 q.high] := by simp [addCells]

theorem step_of {H : Type} {enc : TypeId × Value → H} {W : World} {sp : Nat → Bool} {hd : Bool} {a : Addr} {n : Nat} {cs : List Value} {x : DataW H × List MemPlace} (hc : W.cells? 0 a 4 = some cs) (ht : DataW.trod enc Tryz.prog W 0 sp hd n 52 cs = some x) :
    ∃ q : AddC, (∀ (j : Nat) (u : Value), [Value.int .i64 q.kind, .int .i64 q.level, .int .u64 q.low, .int .u64 q.high][j]? = some u → W.cell? (a.add j) = some u) ∧ q.low < 18446744073709551616 ∧ q.high < 18446744073709551616 := by
  obtain ⟨xs, m, _, _, _, hl, hf⟩ := DataW.trod_struct Tryz.underlying52 ht
  obtain ⟨_, hcl, hat⟩ := World.cells?_some hc
  have hl4 : xs.length = 4 := hl
  have get : ∀ i, i < 4 → ∃ y, xs[i]? = some y := fun i hi => ⟨_, List.getElem?_eq_getElem (by omega)⟩
  obtain ⟨y0, g0⟩ := get 0 (by omega)
  obtain ⟨y1, g1⟩ := get 1 (by omega)
  obtain ⟨y2, g2⟩ := get 2 (by omega)
  obtain ⟨y3, g3⟩ := get 3 (by omega)
  have kci : Tryz.prog.cellsOf 3 = 1 := by kernel_rfl
  have kcp : Tryz.prog.cellsOf 44 = 1 := by kernel_rfl
  obtain ⟨k, e0, _⟩ := field_num Tryz.underlying3 kci ((hf 0 _ rfl).trans g0)
  obtain ⟨l, e1, _⟩ := field_num Tryz.underlying3 kci ((hf 1 _ rfl).trans g1)
  obtain ⟨lo, e2, b2, c2⟩ := field_num Tryz.underlying44 kcp ((hf 2 _ rfl).trans g2)
  obtain ⟨hi, e3, b3, c3⟩ := field_num Tryz.underlying44 kcp ((hf 3 _ rfl).trans g3)
  have e0' : cs[0]? = some (.int .i64 k) := e0
  have e1' : cs[1]? = some (.int .i64 l) := e1
  have e2' : cs[2]? = some (.int .u64 lo) := e2
  have e3' : cs[3]? = some (.int .u64 hi) := e3
  have b2 : 0 ≤ lo := b2
  have b3 : 0 ≤ hi := b3
  have c2 : lo ≤ 18446744073709551615 := c2
  have c3 : hi ≤ 18446744073709551615 := c3
  obtain ⟨lo, rfl⟩ : ∃ n : Nat, (n : Int) = lo := ⟨lo.toNat, by omega⟩
  obtain ⟨hi, rfl⟩ : ∃ n : Nat, (n : Int) = hi := ⟨hi.toNat, by omega⟩
  refine ⟨⟨k, l, lo, hi⟩, fun j u hu => ?_, by simp only; omega, by simp only; omega⟩
  match j with
  | 0 => exact (hat 0 (by omega)).trans (e0'.trans hu)
  | 1 => exact (hat 1 (by omega)).trans (e1'.trans hu)
  | 2 => exact (hat 2 (by omega)).trans (e2'.trans hu)
  | 3 => exact (hat 3 (by omega)).trans (e3'.trans hu)
  | j + 4 => simp at hu
/-- A script, opened. -/
theorem script_list {W : World} {a : Addr} : ∀ (len : Nat), (∀ i, i < len → ∃ q : AddC, (∀ (j : Nat) (u : Value), [Value.int .i64 q.kind, .int .i64 q.level, .int .u64 q.low, .int .u64 q.high][j]? = some u → W.cell? ((a.add (i * 4)).add j) = some u) ∧ q.low < 18446744073709551616 ∧ q.high < 18446744073709551616) →
    ∃ sc : List AddC, sc.length = len ∧ (∀ q ∈ sc, q.low < 18446744073709551616 ∧ q.high < 18446744073709551616) ∧ ∀ (j : Nat) (u : Value), (addCells sc)[j]? = some u → W.cell? (a.add j) = some u
  | 0, _ => ⟨[], rfl, fun q hq => by simp at hq, fun j u hu => by simp [addCells] at hu⟩
  | len + 1, h => by
    obtain ⟨sc, h1, h2, h3⟩ := script_list len (fun i hi => h i (by omega))
    obtain ⟨q, hq, hlo, hhi⟩ := h len (by omega)
    refine ⟨sc ++ [q], by simp [h1], fun r hr => ?_, fun j u hu => ?_⟩
    · rcases List.mem_append.1 hr with hr | hr
      · exact h2 r hr
      · rw [List.mem_singleton.1 hr]; exact ⟨hlo, hhi⟩
    · rw [addCells_snoc] at hu
      by_cases hj : j < (addCells sc).length
      · rw [List.getElem?_append_left hj] at hu
        exact h3 j u hu
      · rw [List.getElem?_append_right (by omega)] at hu
        have := hq _ u hu
        rw [Addr.add_add] at this
        rw [addCells_len, h1] at this hj
        rwa [show len * 4 + (j - 4 * len) = j by omega] at this
set_option maxRecDepth 100000 in
theorem script_of {H : Type} {enc : TypeId × Value → H} {W : World} {v : Value} {d : DataW H} {p : List MemPlace} {base : Nat} (hv : Value.okWide Tryz.prog W .any base 22 v) (h : DataW.Trod enc Tryz.prog W 0 (fun _ => true) true 22 v d p) :
    ∃ (A : Option Addr) (cap : Nat) (sc : List AddC), v = .slice A sc.length cap ∧ Rd W A (addCells sc) ∧ ∀ q ∈ sc, q.low < 18446744073709551616 ∧ q.high < 18446744073709551616 := by
  obtain ⟨A, len, cap, rfl⟩ := okWide_slice Tryz.underlying22 hv
  obtain ⟨n, hn⟩ := h
  rcases open_slice Tryz.underlying22 hn with ⟨e, _⟩ | ⟨a, len', cap', m, n', D, Pl, e, _, hl, _, hm, _, hi⟩
  · simp only [Value.cells] at e
    injection e with e
    injection e with e1 e2 e3
    subst e1 e2 e3
    exact ⟨none, 0, [], rfl, Rd.nil _ _, fun q hq => by simp at hq⟩
  · simp only [Value.cells] at e
    injection e with e
    injection e with e1 e2 e3
    subst e1 e2 e3
    have kc4 : Tryz.prog.cellsOf 52 = 4 := by kernel_rfl
    obtain ⟨sc, h1, h2, h3⟩ := script_list (W := W) (a := a) len (fun i hil => by
      obtain ⟨cs', hc, ht⟩ := hi i (by rw [hm]; simp; omega)
      rw [kc4] at hc
      exact step_of hc ht)
    exact ⟨some a, cap, sc, by rw [h1], fun j u hu => ⟨a, rfl, h3 j u hu⟩, h2⟩
end Go.Proofs.YtadipinnbehhhaaGreatDoor
