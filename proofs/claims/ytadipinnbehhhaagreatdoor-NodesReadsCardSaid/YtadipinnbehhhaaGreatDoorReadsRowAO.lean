/- Up and Down: a cursor is begun, or refused. The methods of the two ways. -/
import Derived.Test.YtadipinnbehhhaaGreatDoorReadsRowAN
namespace Go.Proofs.YtadipinnbehhhaaGreatDoor
open Go.RowKit

section
variable {c : Cx} {w w' : World} {b : Nat} {G : Nat → Prop} {s s' : RSt} {fs : List (ByteArray × AFile)} {name : ByteArray} {kind : Nat} {L rem : List R4} {back : Bool}

theorem WentTo.nil {w2 : World} {J : Nat} {k : Int} (t : WentTo c G J k s w w') (kn : Keep Nil w' w2) : WentTo c G J k s w w2 := by
  obtain ⟨j, s', hj, hw, ht⟩ := t
  exact ⟨j, s', hj, hw, ht.nil kn⟩
theorem WentTo.mono {J J2 : Nat} {k : Int} (t : WentTo c G J k s w w') (h : J ≤ J2) : WentTo c G J2 k s w w' := by
  obtain ⟨j, s', hj, hw, ht⟩ := t
  exact ⟨j, s', Nat.le_trans hj h, hw, ht⟩
set_option maxRecDepth 100000 in
set_option maxHeartbeats 1000000 in
theorem begin_bad {o : Option (Nat × Nat × Nat)} {n : Int} (up : Bool) (h : RmAt c w G s) (ha : LookAns c s name o n) (hz : ¬ n = 0) :
    Calls Tryz.prog 80 #[.pointer (some ⟨c.k, 0, none⟩), .string name, wayV up] w fun e w' => e = .returned (.tuple #[.pointer none, .int .i64 n]) ∧ WentTo c G 3 0 s w w' := by
  have HL := Hid.intro_ (look_any h ha)
  have q : (n != 0) = true := by simpa using hz
  obtain ⟨v1, v2, v3, hv⟩ : ∃ a b d : Nat, ansV o = inV a b d := by
    cases o with
    | none => exact ⟨0, 0, 0, rfl⟩
    | some p => exact ⟨p.1, p.2.1, p.2.2, rfl⟩
  rw [hv] at HL
  unfold inV at *
  clear h ha hz hv
  go_enter Tryz.func80, Tryz.ntmps80
  go_wp2_with fail
  refine HL.out.mono ?_
  rintro e w1 ⟨rfl, hto⟩
  have HTO := Hid.intro_ hto
  clear hto
  go_wp2_with fail
  go_ret2
  exact ⟨rfl, (HTO.out.mono (by omega)).nil ((Keep.refl Nil w1).alloc _)⟩
theorem endL_some {v r m : Nat} (h : endL L = some (v, r, m)) : v ≤ 65536 ∧ m < 9223372036854775808 ∧ ∃ x rest, L.reverse = x :: rest ∧ x.b = v ∧ x.c = r ∧ x.d = m ∧ isE x.a x.b x.c x.d = true := by
  unfold endL at h
  cases hr : L.reverse with
  | nil => rw [hr] at h; cases h
  | cons x rest =>
    rw [hr] at h
    simp only at h
    split at h
    · rename_i he
      injection h with h
      injection h with h1 h2
      injection h2 with h2 h3
      subst h1 h2 h3
      have he2 := he
      unfold isE at he2
      simp only [Bool.and_eq_true, decide_eq_true_eq] at he2
      exact ⟨he2.1.1.2, he2.1.2, x, rest, rfl, rfl, rfl, rfl, he⟩
    · cases h
set_option maxRecDepth 100000 in
set_option maxHeartbeats 2000000 in
theorem begin_shape {v r m : Nat} (up : Bool) (h : RmAt c w G s) (t : TapeOn c fs name 2 L) (hc : Calm s.D c.block fs) (hcl : s.S.closed = false) (hh : 0 ≤ s.S.hand) (hf : (c.K : Int) ≤ s.S.limit - (s.S.hand + s.S.parts)) (he : endL L = some (v, r, m)) (hn : ¬ L.length = m + 1) :
    Calls Tryz.prog 80 #[.pointer (some ⟨c.k, 0, none⟩), .string name, wayV up] w fun e w' => e = .returned (.tuple #[.pointer none, .int .i64 72]) ∧ WentTo c G 3 0 s w w' := by
  have hl := look_any h (LookAns.tape fs L t hc hcl hh hf)
  rw [he] at hl
  have HL := Hid.intro_ hl
  obtain ⟨hv, hm, _⟩ := endL_some he
  have hle := t.le
  have HT := Hid.intro_ t
  have HC := Hid.intro_ hc
  have HCL := Hid.intro_ hcl
  have HHH := Hid.intro_ hh
  have HF := Hid.intro_ hf
  have q : ((L.length : Int) != wrap64 ((m : Int) + 1)) = true := by
    have : ¬ (L.length : Int) = wrap64 ((m : Int) + 1) := by unfold wrap64; omega
    simpa using this
  have Q := Hid.intro_ q
  unfold ansV ansN inV at *
  clear hl h t hc hcl hh hf he hn q
  go_enter Tryz.func80, Tryz.ntmps80
  go_wp2_with fail
  refine HL.out.mono ?_
  rintro e w1 ⟨rfl, j, s1, hj, hw, G1, h1, st1⟩
  obtain ⟨W, hW⟩ : ∃ W, W = w1.alloc (.cells #[.int .i64 v, .int .u64 r, .int .i64 m] 72) := ⟨_, rfl⟩
  have kW : Keep Nil w1 W := by rw [hW]; exact (Keep.refl Nil w1).alloc _
  have bW : Blk W w1.heap.size 72 #[.int .i64 v, .int .u64 r, .int .i64 m] := by rw [hW]; exact Blk.new w1 _ _
  have hsz := size_tape (h1.nil kW) HT.out (hw.calm HC.out) (by decide) (by rw [hw.closed]; exact HCL.out) (by rw [hw.hand]; have := HHH.out; omega) (by rw [hw.limit, hw.hand, hw.parts]; have := HF.out; omega)
  have HSZ := Hid.intro_ hsz
  have hoff := Hid.intro_ (show Off c.E G1 w1.heap.size from Off.new h1.env h1.lt (Nat.le_refl _))
  have HW := Hid.intro_ hw
  have ST1 := Hid.intro_ st1
  have KW := Hid.intro_ kW
  have BW := Hid.intro_ bW
  clear h1 hw st1 kW bW hsz
  go_wp2_with fail
  rw [← hW]
  refine HSZ.out.mono ?_
  rintro e w2 ⟨rfl, j2, s2, hj2, hw2, G2, h2, st2⟩
  have b2 := BW.out.keep st2.keep hoff.out.1
  have i2 : w2.cell? ⟨w1.heap.size, 2, none⟩ = some (.int .i64 m) := b2.at_ 2
  have HW2 := Hid.intro_ hw2
  have ST2 := Hid.intro_ st2
  have H2 := Hid.intro_ h2
  have q := Q.out
  clear b2 hw2 st2 h2 hW
  go_wp2_with fail
  go_ret2
  refine ⟨rfl, j2 + j, s2, by omega, (HW.out.trans HW2.out).of_eq rfl (by omega), G2, H2.out, ?_⟩
  exact (ST1.out.then_nil KW.out).trans ST2.out
/-- What stands behind Up and Down where a cursor is begun. -/
structure CuR (c : Cx) (name : ByteArray) (L : List R4) (up : Bool) (v r m : Nat) (G : Nat → Prop) (s : RSt) (rem : List R4) (w : World) (e : Ending) (w' : World) : Prop where mk ::
  out : ∃ cb b j q x s', e = .returned (.tuple #[.pointer (some ⟨cb, 0, none⟩), .int .i64 0]) ∧ j ≤ 3 ∧ q ≤ nblk c.K L.length ∧ Went j c.K s s' ∧ RdLive c name 2 L (!up) x q rem ∧
    CurTo c cb b G s' x { up := up, vars := v, root := r, nodes := m, given := 0, last := ⟨0, 0, 0⟩, dead := 0, done := false } w w'
set_option maxRecDepth 100000 in
set_option maxHeartbeats 4000000 in
theorem begin_go {v r m : Nat} (up : Bool) (h : RmAt c w G s) (t : TapeOn c fs name 2 L) (hc : Calm s.D c.block fs) (hcl : s.S.closed = false) (hh : 0 ≤ s.S.hand) (hf : (c.K : Int) ≤ s.S.limit - (s.S.hand + s.S.parts)) (he : endL L = some (v, r, m)) (hn : L.length = m + 1) :
    Calls Tryz.prog 80 #[.pointer (some ⟨c.k, 0, none⟩), .string name, wayV up] w (CuR c name L up v r m G s (if up then L else L.reverse.tail) w) := by
  have hl := look_any h (LookAns.tape fs L t hc hcl hh hf)
  rw [he] at hl
  have HL := Hid.intro_ hl
  obtain ⟨hv, hm, x0, rest, hrev, _⟩ := endL_some he
  have hle := t.le
  have HT := Hid.intro_ t
  have HC := Hid.intro_ hc
  have HCL := Hid.intro_ hcl
  have HHH := Hid.intro_ hh
  have HF := Hid.intro_ hf
  have HREV := Hid.intro_ hrev
  have q : ((L.length : Int) != wrap64 ((m : Int) + 1)) = false := by
    have : (L.length : Int) = wrap64 ((m : Int) + 1) := by unfold wrap64; omega
    simpa using this
  have Q := Hid.intro_ q
  have nu := nil_up
  have nd := nil_down
  have n1 := fun w => nil_up "strata/nodes.open" (.inl rfl) w
  have n2 := fun w => nil_down "strata/nodes.open" (.inl rfl) w
  have m1 := m_up_open
  have m2 := m_down_open
  unfold ansV ansN inV at *
  clear hl h t hc hcl hh hf he hn q hrev nu nd
  have hopen : Hid (∀ (W : World) (G9 : Nat → Prop) (s9 : RSt), RmAt c W G9 s9 → Calm s9.D c.block fs → s9.S.closed = false → (c.K : Int) ≤ s9.S.limit - (s9.S.hand + s9.S.parts) →
      Calls Tryz.prog (if up then 322 else 92) #[.agg #[], .pointer (some ⟨c.k, 0, none⟩), .string name] W fun e w' => ∃ b, e = .returned (.tuple #[.pointer (some ⟨b, 0, none⟩), .int .i64 0]) ∧ W.heap.size ≤ b ∧ OpR c name 2 L (!up) b G9 s9 (if up then L else L.reverse.tail) 1 W w') := Hid.intro_ (fun W G9 s9 h9 hc9 hcl9 hf9 => by
    cases up with
    | true => exact upopen_tape h9 HT.out hc9 hcl9 hf9
    | false =>
      have := downopen_tape h9 HT.out hc9 hcl9 hf9 HREV.out
      simpa [HREV.out] using this)
  obtain ⟨rm9, hrm9⟩ : ∃ rm9, rm9 = (if up then L else L.reverse.tail) := ⟨_, rfl⟩
  rw [← hrm9] at hopen ⊢
  clear hrm9
  cases up
  all_goals
    unfold wayV
    simp only [if_true, Bool.false_eq_true, if_false] at hopen ⊢
    go_enter Tryz.func80, Tryz.ntmps80
    go_wp2_with fail
    refine HL.out.mono ?_
    rintro e w1 ⟨rfl, j, s1, hj, hw, G1, h1, st1⟩
    obtain ⟨W, hW⟩ : ∃ W, W = w1.alloc (.cells #[.int .i64 v, .int .u64 r, .int .i64 m] 72) := ⟨_, rfl⟩
    have kW : Keep Nil w1 W := by rw [hW]; exact (Keep.refl Nil w1).alloc _
    have bW : Blk W w1.heap.size 72 #[.int .i64 v, .int .u64 r, .int .i64 m] := by rw [hW]; exact Blk.new w1 _ _
    have hsz := size_tape (h1.nil kW) HT.out (hw.calm HC.out) (by decide) (by rw [hw.closed]; exact HCL.out) (by rw [hw.hand]; have := HHH.out; omega) (by rw [hw.limit, hw.hand, hw.parts]; have := HF.out; omega)
    have HSZ := Hid.intro_ hsz
    have hoff := Hid.intro_ ((show Off c.E G1 w1.heap.size from Off.new h1.env h1.lt (Nat.le_refl _)))
    have HW := Hid.intro_ hw
    have ST1 := Hid.intro_ st1
    have KW := Hid.intro_ kW
    have BW := Hid.intro_ bW
    clear h1 hw st1 kW bW hsz
    go_wp2_with fail
    rw [← hW]
    refine HSZ.out.mono ?_
    rintro e w2 ⟨rfl, j2, s2, hj2, hw2, G2, h2, st2⟩
    have hw12 := (HW.out.trans hw2).of_eq rfl (show (0 : Int) + 0 = 0 by omega)
    have b2 := BW.out.keep st2.keep hoff.out.1
    have i0 : w2.cell? ⟨w1.heap.size, 0, none⟩ = some (.int .i64 v) := b2.at_ 0
    have i1 : w2.cell? ⟨w1.heap.size, 1, none⟩ = some (.int .u64 r) := b2.at_ 1
    have i2 : w2.cell? ⟨w1.heap.size, 2, none⟩ = some (.int .i64 m) := b2.at_ 2
    have hop := hopen.out w2 G2 s2 h2 (hw12.calm HC.out) (by rw [hw12.closed]; exact HCL.out) (by rw [hw12.limit, hw12.hand, hw12.parts]; have := HF.out; omega)
    have HOP := Hid.intro_ hop
    have off2 := Hid.intro_ (hoff.out.step (w := W) (by rw [hW]; simp) st2)
    have lt2 := b2.lt
    have HW12 := Hid.intro_ hw12
    have ST2 := Hid.intro_ ((ST1.out.then_nil KW.out).trans st2)
    have B2 := Hid.intro_ b2
    have q := Q.out
    clear b2 hw2 st2 h2 hW hop hw12
    go_wp2_with fail
    refine HOP.out.mono ?_
    rintro e w3 ⟨b, rfl, hb, ho⟩
    obtain ⟨j3, q3, x3, s3, g1, g2, g3, g4, G3, h3, st3⟩ := ho.out
    have b3 := B2.out.keep st3.keep off2.out.1
    have e0 : w3.cell? ⟨w1.heap.size, 0, none⟩ = some (.int .i64 v) := b3.at_ 0
    have e1 : w3.cell? ⟨w1.heap.size, 1, none⟩ = some (.int .u64 r) := b3.at_ 1
    have e2 : w3.cell? ⟨w1.heap.size, 2, none⟩ = some (.int .i64 m) := b3.at_ 2
    have lt3 := b3.lt
    have H3 := Hid.intro_ h3
    have ST3 := Hid.intro_ (ST2.out.trans st3)
    have G3' := Hid.intro_ g3
    have G4' := Hid.intro_ g4
    clear ho h3 st3 g3 g4 b3
    go_wp2_with fail
    go_ret2
    have k3 : ∀ o, Keep Nil w3 (w3.alloc o) := fun o => (Keep.refl Nil w3).alloc o
    refine ⟨w3.heap.size, b, j3 + (j2 + j), q3, x3, s3, rfl, by omega, by omega, (HW12.out.trans G3'.out).of_eq rfl (by omega), G4'.out, (fun z => G3 z ∨ z = w3.heap.size), ⟨⟨G3, rfl, H3.out.nil (k3 _), Off.new H3.out.env H3.out.lt (Nat.le_refl _)⟩, ?_⟩, ?_⟩
    · exact Blk.new w3 _ _
    · exact ⟨ST3.out.keep.trans (k3 _) (fun _ _ h => h.elim), fun z hz => hz.elim (fun h => ST3.out.grow z h) (fun e => .inr (by rw [e]; exact ST3.out.keep.size))⟩
set_option maxHeartbeats 1000000 in
theorem up_is (P : Ending → World → Prop) (h : Calls Tryz.prog 80 #[.pointer (some ⟨c.k, 0, none⟩), .string name, wayV true] w fun e w' => (∃ p n, e = .returned (.tuple #[p, .int .i64 n])) ∧ P e w') :
    Calls Tryz.prog 27 #[.pointer (some ⟨c.k, 0, none⟩), .string name] w P := by
  have HB := Hid.intro_ h
  unfold wayV at *
  simp only [if_true] at HB
  clear h
  go_enter Tryz.func27, Tryz.ntmps27
  go_wp2_with fail
  refine HB.out.mono ?_
  rintro e w1 ⟨⟨p, n, rfl⟩, hp⟩
  go_wp2_with fail
  exact hp
set_option maxHeartbeats 1000000 in
theorem down_is (P : Ending → World → Prop) (h : Calls Tryz.prog 80 #[.pointer (some ⟨c.k, 0, none⟩), .string name, wayV false] w fun e w' => (∃ p n, e = .returned (.tuple #[p, .int .i64 n])) ∧ P e w') :
    Calls Tryz.prog 28 #[.pointer (some ⟨c.k, 0, none⟩), .string name] w P := by
  have HB := Hid.intro_ h
  unfold wayV at *
  simp only [Bool.false_eq_true, if_false] at HB
  clear h
  go_enter Tryz.func28, Tryz.ntmps28
  go_wp2_with fail
  refine HB.out.mono ?_
  rintro e w1 ⟨⟨p, n, rfl⟩, hp⟩
  go_wp2_with fail
  exact hp
end
end Go.Proofs.YtadipinnbehhhaaGreatDoor
namespace Go.Proofs.YtadipinnbehhhaaGreatDoor
open Go.RowKit

section
variable {w : World}
set_option maxHeartbeats 1000000 in
theorem upbegins_any (n : N3) (root : Nat) (hn : n.self < 18446744073709551616) (w : World) :
    Calls Tryz.prog 319 #[.agg #[], ndV n.self n.low n.high, .int .u64 root] w fun e w' => e = .returned (.bool (sI n.self == 0)) ∧ Keep Nil w w' := by
  have HF := Hid.intro_ (fun W => first_any n.self n.low n.high hn W)
  unfold ndV at *
  clear hn
  go_enter Tryz.func319, Tryz.ntmps319
  go_wp2_with fail
  refine (HF.out _).mono ?_
  rintro e w1 ⟨rfl, k⟩
  go_wp2_with fail
  go_ret
  exact ⟨rfl, (((Keep.refl Nil w).alloc _).alloc _).then_ k⟩
set_option maxHeartbeats 1000000 in
theorem upends_any (n : N3) (root : Nat) (w : World) :
    Calls Tryz.prog 320 #[.agg #[], ndV n.self n.low n.high, .int .u64 root] w fun e w' => e = .returned (.bool (decide (n.self = root))) ∧ Keep Nil w w' := by
  have HD : Hid (((n.self : Int) == (root : Int)) = decide (n.self = root)) := by
    refine Hid.intro_ ?_
    rw [Bool.eq_iff_iff]
    simp
    omega
  unfold ndV at *
  go_enter Tryz.func320, Tryz.ntmps320
  go_wp2_with fail
  go_ret
  exact ⟨by rw [← HD.out]; rfl, ((Keep.refl Nil w).alloc _).alloc _⟩
set_option maxHeartbeats 1000000 in
theorem upgoes_any (n l : N3) (hn : sIn n.self = true) (hl : sIn l.self = true) (w : World) :
    Calls Tryz.prog 321 #[.agg #[], ndV n.self n.low n.high, ndV l.self l.low l.high] w fun e w' => e = .returned (.bool (flw n.self n.low n.high l.self l.low l.high)) ∧ Keep Nil w w' := by
  have HF := Hid.intro_ (fun W => follows_any n.self n.low n.high l.self l.low l.high hn hl W)
  unfold ndV at *
  clear hn hl
  go_enter Tryz.func321, Tryz.ntmps321
  go_wp2_with fail
  refine (HF.out _).mono ?_
  rintro e w1 ⟨rfl, k⟩
  go_wp2_with fail
  go_ret
  exact ⟨rfl, ((((Keep.refl Nil w).alloc _).alloc _).alloc _).then_ k⟩
set_option maxHeartbeats 1000000 in
theorem downbegins_any (n : N3) (root : Nat) (w : World) :
    Calls Tryz.prog 324 #[.agg #[], ndV n.self n.low n.high, .int .u64 root] w fun e w' => e = .returned (.bool (decide (n.self = root))) ∧ Keep Nil w w' := by
  have HD : Hid (((n.self : Int) == (root : Int)) = decide (n.self = root)) := by
    refine Hid.intro_ ?_
    rw [Bool.eq_iff_iff]
    simp
    omega
  unfold ndV at *
  go_enter Tryz.func324, Tryz.ntmps324
  go_wp2_with fail
  go_ret
  exact ⟨by rw [← HD.out]; rfl, ((Keep.refl Nil w).alloc _).alloc _⟩
set_option maxHeartbeats 1000000 in
theorem downends_any (n : N3) (root : Nat) (hn : n.self < 18446744073709551616) (w : World) :
    Calls Tryz.prog 325 #[.agg #[], ndV n.self n.low n.high, .int .u64 root] w fun e w' => e = .returned (.bool (sI n.self == 0)) ∧ Keep Nil w w' := by
  have HF := Hid.intro_ (fun W => first_any n.self n.low n.high hn W)
  unfold ndV at *
  clear hn
  go_enter Tryz.func325, Tryz.ntmps325
  go_wp2_with fail
  refine (HF.out _).mono ?_
  rintro e w1 ⟨rfl, k⟩
  go_wp2_with fail
  go_ret
  exact ⟨rfl, (((Keep.refl Nil w).alloc _).alloc _).then_ k⟩
set_option maxHeartbeats 1000000 in
theorem downgoes_any (n l : N3) (hn : sIn n.self = true) (hl : sIn l.self = true) (w : World) :
    Calls Tryz.prog 326 #[.agg #[], ndV n.self n.low n.high, ndV l.self l.low l.high] w fun e w' => e = .returned (.bool (flw l.self l.low l.high n.self n.low n.high)) ∧ Keep Nil w w' := by
  have HF := Hid.intro_ (fun W => follows_any l.self l.low l.high n.self n.low n.high hl hn W)
  unfold ndV at *
  clear hn hl
  go_enter Tryz.func326, Tryz.ntmps326
  go_wp2_with fail
  refine (HF.out _).mono ?_
  rintro e w1 ⟨rfl, k⟩
  go_wp2_with fail
  go_ret
  exact ⟨rfl, ((((Keep.refl Nil w).alloc _).alloc _).alloc _).then_ k⟩
end

end Go.Proofs.YtadipinnbehhhaaGreatDoor
