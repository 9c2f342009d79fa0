/- NodesAsks: the lifted contract. -/
import Derived.Test.YtadipinnbehhhaaGreatDoorCards
import Derived.Test.YtadipinnbehhhaaGreatDoorTie
import Derived.SevenTiedAt
import Derived.Test.YtadipinnbehhhaaGreatDoorAsksRowAS
import Derived.Test.YtadipinnbehhhaaGreatDoorAsksRowAY
namespace Go.Proofs.YtadipinnbehhhaaGreatDoor
open Go.ChangeShapes Go.WideShapes Go.ChangeAt Go.WideMaps Go.WideElems Go.RowKit Go.Deep

set_option maxRecDepth 100000 in
theorem asks_lifted (os : Os) (started : os.Started) (H : Type) (enc : TypeId × Value → H) :
    ReturnsInHanded {} Tryz.checked os 5 .any (fun w args => (Rows.nodesAsksSpec.pre enc Tryz.prog Tryz.f5 [] false w args ∧ laidMetH Tryz.prog eleven w) ∧ sizedMet enc Tryz.prog Tryz.f5 (OpenSpec.ofChange Rows.nodesAsksSpec) false w args)
      (Rows.nodesAsksSpec.post enc Tryz.prog Tryz.f5 false true false false) := by
  refine returnsInHanded_of_change_and (C := Tryz.checked) (X := fun w _ => laidMetH Tryz.prog eleven w) (fun _ _ _ hh h => h.of_heap hh) kOwn started (by kernel_rfl) Tryz.func5
    (ChangeSpec.witness_shaped (enc := enc) (C := Tryz.checked) (os := os) (X := fun w _ => laidMetH Tryz.prog eleven w) false (World.doorLaid Tryz.prog 210 os) #[.agg #[.slice none 0 0, .int .i64 0], .agg #[.slice none 0 0, .int .i64 0], .slice none 0 0] 8 rfl (World.shaped_of_RefB (by kernel_rfl) (by kernel_rfl)) (by kernel_rfl) (by kernel_rfl) (by kernel_rfl) (door_met os _)) ?_
  intro W base args ds gs before hval0 hW _ _ hL _
  have hval : ∀ (j : Nat) t v, Tryz.f5.params[j]? = some t → args[j]? = some v → Value.okWide Tryz.prog W .any base t v := hval0
  have hW' := hW
  obtain ⟨p, q, hA0, hV, rfl, hfz, hnd⟩ := hW
  have hA : DataW.TrodAll enc Tryz.prog W 0 (fun _ => true) true Tryz.f5.params.toList args.toList ds p := hA0
  have hAll := hA
  rw [Tryz.params5] at hA hval
  obtain ⟨v0, v1, v2, d0, d1, d2, p0, p1, p2, rfl, rfl, rfl, h0, h1, h2⟩ := trodAll_three hA
  obtain ⟨rfl, rfl⟩ := trodVars_none hV
  obtain ⟨A, cap, L, b, rfl, hr, ho, hcap, hb⟩ := case_of (hval 0 67 v0 rfl rfl) h0
  obtain ⟨A2, cap2, L2, b2, rfl, hr2, ho2, hcap2, hb2⟩ := case_of (hval 1 67 v1 rfl rfl) h1
  obtain ⟨Al, cl, ls, rfl, hll, hls⟩ := lists_of (hval 2 84 v2 rfl rfl) h2
  have hL2 : laidMet Tryz.prog eleven W := by
    have := hL
    rw [MakeChecks.laidMetH_plain _ _ _ (by kernel_rfl)] at this
    exact this
  obtain ⟨E, hE, hH, hM⟩ := laid_gives hL2
  have key : Calls Tryz.prog 5 #[.agg #[.slice A L.length cap, .int .i64 b], .agg #[.slice A2 L2.length cap2, .int .i64 b2], .slice Al ls.length cl] W fun e w' => e = .returned (.bool true) ∧ Keep Nil W w' := by
    by_cases hle : L.length ≤ 268435456
    · by_cases hle2 : L2.length ≤ 268435456
      · exact asks_true W E b b2 A A2 Al cap cap2 cl L L2 ls hb hr hr2 ho ho2 hll hls hE hH hM hle hle2
      · exact asks_huge2 W b A L.length cap L2.length cap2 A2 b2 _ (by omega) (by omega)
    · exact asks_huge1 W b A L.length cap L2.length cap2 A2 b2 _ (by omega)
  simp only [List.append_nil] at hW' hAll
  refine key.mono fun e W' ⟨he, hk⟩ => ?_
  subst he
  refine ⟨_, rfl, law_post hW' rfl hAll rfl ?_ (by kernel_rfl) hk⟩
  rw [Tryz.params5]
  intro t ht
  simp only [List.mem_cons, List.not_mem_nil, or_false] at ht
  rcases ht with rfl | rfl | rfl <;> exact ⟨by kernel_rfl, of_decide_eq_true (by kernel_rfl)⟩
end Go.Proofs.YtadipinnbehhhaaGreatDoor
