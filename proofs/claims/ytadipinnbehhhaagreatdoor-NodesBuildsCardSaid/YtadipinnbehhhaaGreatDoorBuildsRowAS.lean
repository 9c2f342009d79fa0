/- NodesBuilds: the lifted contract. -/
import Derived.Test.YtadipinnbehhhaaGreatDoorCards
import Derived.Test.YtadipinnbehhhaaGreatDoorTie
import Derived.SevenTiedAt
import Derived.Test.YtadipinnbehhhaaGreatDoorBuildsRowAR
namespace Go.Proofs.YtadipinnbehhhaaGreatDoor
open Go.ChangeShapes Go.WideShapes Go.ChangeAt Go.WideMaps Go.WideElems Go.RowKit Go.Deep

set_option maxRecDepth 100000 in
theorem builds_lifted (os : Os) (started : os.Started) (H : Type) (enc : TypeId × Value → H) :
    ReturnsInHanded {} Tryz.checked os 3 .any (fun w args => (Rows.nodesBuildsSpec.pre enc Tryz.prog Tryz.f3 [] false w args ∧ laidMetH Tryz.prog eleven w) ∧ sizedMet enc Tryz.prog Tryz.f3 (OpenSpec.ofChange Rows.nodesBuildsSpec) false w args)
      (Rows.nodesBuildsSpec.post enc Tryz.prog Tryz.f3 false true false false) := by
  refine returnsInHanded_of_change_and (C := Tryz.checked) (X := fun w _ => laidMetH Tryz.prog eleven w) (fun _ _ _ hh h => h.of_heap hh) kOwn started (by kernel_rfl) Tryz.func3
    (ChangeSpec.witness_shaped (enc := enc) (C := Tryz.checked) (os := os) (X := fun w _ => laidMetH Tryz.prog eleven w) false (World.doorLaid Tryz.prog 210 os) #[.int .i64 0, .slice none 0 0, .agg #[.int .i64 0, .int .i64 0]] 8 rfl (World.shaped_of_RefB (by kernel_rfl) (by kernel_rfl)) (by kernel_rfl) (by kernel_rfl) (by kernel_rfl) (door_met os _)) ?_
  intro W base args ds gs before hval0 hW _ _ hL _
  have hval : ∀ (j : Nat) t v, Tryz.f3.params[j]? = some t → args[j]? = some v → Value.okWide Tryz.prog W .any base t v := hval0
  have hW' := hW
  obtain ⟨p, q, hA0, hV, rfl, hfz, hnd⟩ := hW
  have hA : DataW.TrodAll enc Tryz.prog W 0 (fun _ => true) true Tryz.f3.params.toList args.toList ds p := hA0
  have hAll := hA
  rw [Tryz.params3] at hA hval
  obtain ⟨v0, v1, v2, d0, d1, d2, p0, p1, p2, rfl, rfl, rfl, h0, h1, h2⟩ := trodAll_three hA
  obtain ⟨rfl, rfl⟩ := trodVars_none hV
  obtain ⟨n, rfl, rfl, rfl, wn⟩ := open_int Tryz.underlying3 (hval 0 3 v0 rfl rfl) h0
  obtain ⟨A, cap, sc, rfl, hsc, hok⟩ := script_of (hval 1 22 v1 rfl rfl) h1
  obtain ⟨a, b, rfl, hab⟩ := two_of (hval 2 23 v2 rfl rfl) h2
  have hn : -9223372036854775808 ≤ n ∧ n ≤ 9223372036854775807 := ⟨(wf_range wn).1, (wf_range wn).2⟩
  have hL2 : laidMet Tryz.prog eleven W := by
    have := hL
    rw [MakeChecks.laidMetH_plain _ _ _ (by kernel_rfl)] at this
    exact this
  obtain ⟨E, hE, hH, hM⟩ := laid_gives hL2
  have key : Calls Tryz.prog 3 #[.int .i64 n, .slice A sc.length cap, .agg #[.int .i64 a, .int .i64 b]] W fun e w' => e = .returned (.bool true) ∧ Keep Nil W w' := by
    by_cases hle : sc.length ≤ 268435456
    · exact builds_true W E n a b A cap sc hn hab hsc hok hE hH hM hle
    · exact builds_huge W n a b A sc.length cap (by omega)
  simp only [List.append_nil] at hW' hAll
  refine key.mono fun e W' ⟨he, hk⟩ => ?_
  subst he
  refine ⟨_, rfl, law_post hW' rfl hAll rfl ?_ (by kernel_rfl) hk⟩
  rw [Tryz.params3]
  intro t ht
  simp only [List.mem_cons, List.not_mem_nil, or_false] at ht
  rcases ht with rfl | rfl | rfl <;> exact ⟨by kernel_rfl, of_decide_eq_true (by kernel_rfl)⟩
end Go.Proofs.YtadipinnbehhhaaGreatDoor
