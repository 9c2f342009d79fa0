/- TallyCubes: the lifted contract. -/
import Derived.Test.YtadipinnbehhhaaGreatDoorCards
import Derived.Test.YtadipinnbehhhaaGreatDoorTie
import Derived.SevenTiedAt
import Derived.Test.YtadipinnbehhhaaGreatDoorCubesRowAU
import Derived.Test.YtadipinnbehhhaaGreatDoorCubesRowBD
namespace Go.Proofs.YtadipinnbehhhaaGreatDoor
open Go.ChangeShapes Go.WideShapes Go.ChangeAt Go.WideMaps Go.WideElems Go.RowKit Go.Deep

set_option maxRecDepth 100000 in
theorem cubes_lifted (os : Os) (started : os.Started) (H : Type) (enc : TypeId × Value → H) :
    ReturnsInHanded {} Tryz.checked os 7 .any (fun w args => (Rows.tallyCubesSpec.pre enc Tryz.prog Tryz.f7 [] false w args ∧ laidMetH Tryz.prog eleven w) ∧ sizedMet enc Tryz.prog Tryz.f7 (OpenSpec.ofChange Rows.tallyCubesSpec) false w args)
      (Rows.tallyCubesSpec.post enc Tryz.prog Tryz.f7 false true false false) := by
  refine returnsInHanded_of_change_and (C := Tryz.checked) (X := fun w _ => laidMetH Tryz.prog eleven w) (fun _ _ _ hh h => h.of_heap hh) kOwn started (by kernel_rfl) Tryz.func7
    (ChangeSpec.witness_shaped (enc := enc) (C := Tryz.checked) (os := os) (X := fun w _ => laidMetH Tryz.prog eleven w) false (World.doorLaid Tryz.prog 210 os) #[.agg #[.int .i64 0, .slice none 0 0, .slice none 0 0, .int .i64 0, .int .i64 0], .int .i64 0] 8 rfl (World.shaped_of_RefB (by kernel_rfl) (by kernel_rfl)) (by kernel_rfl) (by kernel_rfl) (by kernel_rfl) (door_met os _)) ?_
  intro W base args ds gs before hval0 hW _ _ hL _
  have hval : ∀ (j : Nat) t v, Tryz.f7.params[j]? = some t → args[j]? = some v → Value.okWide Tryz.prog W .any base t v := hval0
  have hW' := hW
  obtain ⟨p, q, hA0, hV, rfl, hfz, hnd⟩ := hW
  have hA : DataW.TrodAll enc Tryz.prog W 0 (fun _ => true) true Tryz.f7.params.toList args.toList ds p := hA0
  have hAll := hA
  rw [Tryz.params7] at hA hval
  obtain ⟨v0, v1, d0, d1, p0, p1, rfl, rfl, rfl, h0, h1⟩ := trodAll_two hA
  obtain ⟨rfl, rfl⟩ := trodVars_none hV
  obtain ⟨nn, A1, c1, at_, A2, c2, bits, bb, mm, rfl, hca⟩ := tcase_of (hval 0 124 v0 rfl rfl) h0
  obtain ⟨stop, rfl, rfl, rfl, wn⟩ := open_int Tryz.underlying3 (hval 1 3 v1 rfl rfl) h1
  have hL2 : laidMet Tryz.prog eleven W := by
    have := hL
    rw [MakeChecks.laidMetH_plain _ _ _ (by kernel_rfl)] at this
    exact this
  obtain ⟨E, hE, hH, hM⟩ := laid_gives hL2
  have key : Calls Tryz.prog 7 #[caV nn A1 at_.length c1 A2 bits.length c2 bb mm, .int .i64 stop] W fun e w' => e = .returned (.bool true) ∧ Keep Nil W w' := cubes_true E nn A1 c1 at_ A2 c2 bits bb mm stop W hca hE hH hM
  simp only [List.append_nil] at hW' hAll
  refine key.mono fun e W' ⟨he, hk⟩ => ?_
  subst he
  refine ⟨_, rfl, law_post hW' rfl hAll rfl ?_ (by kernel_rfl) hk⟩
  rw [Tryz.params7]
  intro t ht
  simp only [List.mem_cons, List.not_mem_nil, or_false] at ht
  rcases ht with rfl | rfl <;> exact ⟨by kernel_rfl, of_decide_eq_true (by kernel_rfl)⟩
end Go.Proofs.YtadipinnbehhhaaGreatDoor
