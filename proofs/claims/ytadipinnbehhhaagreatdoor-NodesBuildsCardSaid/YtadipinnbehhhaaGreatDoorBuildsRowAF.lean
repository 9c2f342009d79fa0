/- The desk: a tape is begun. A stream over a desk: its state, its end. A writer: how many records; it is given up. Frames: the rooms and writers as states; what stays beside them. Encode: records as a block: the walk. -/
import Derived.Deep.Cut
import Derived.Deep.CutRange
import Derived.Deep.RegionWith
import Derived.StillTailTactics
import Derived.Test.YtadipinnbehhhaaGreatDoorBuildsRowAE
import Derived.Test.YtadipinnbehhhaaGreatDoorBuildsRowAC
import Derived.Test.YtadipinnbehhhaaGreatDoorBuildsRowAD
namespace Go.Proofs.YtadipinnbehhhaaGreatDoor
open Go.RowKit

def wrCells (k : Nat) (name : ByteArray) (kind : Int) (lst : Value) (dead : Int) (done : Bool) (place count : Int) : Array Value :=
  #[.pointer (some ⟨k, 0, none⟩), .string name, .int .i64 kind, lst, .int .i64 dead, .bool done, .int .i64 place, .int .i64 count]

theorem asked_frees {S : PSt} {K : Int} (hK : 0 < K) (h : ¬ S.frees < K) : S.asked K = 0 := by
  unfold PSt.frees at h
  unfold PSt.asked
  split at h
  · omega
  · rename_i hc
    rw [if_neg hc, if_neg (by omega), if_neg (by omega)]

section
variable {w w' : World} {F F' : Nat → Prop} {E : Nat → Addr} {d p lk k : Nat} {of : Option Nat} {D D' : DSt} {S S' : PSt} {K next : Int}

theorem DkAt.lt (h : DkAt w F E d p lk k of D S K next) (b : Nat) (hb : RF F p lk k b) : b < w.heap.size := by
  obtain ⟨R, hd⟩ := h.disk
  rcases hb with hf | (hf | hf) | hf
  · exact hd.lt b hf
  · rw [hf]; exact h.purse.blk.lt
  · rw [hf]; exact h.purse.lock.lt
  · rw [hf]; exact h.desk.lt

/-- What Free answers, in the room's words. -/
theorem frees_dk (h : DkAt w F E d p lk k of D S K next) :
    Calls Tryz.prog 126 #[.pointer (some ⟨p, 0, none⟩)] w fun e w' => e = .returned (.int .i64 S.frees) ∧ DkTo w F E d p lk k of D S K next w' :=
  (frees_any p lk of S w h.purse).mono fun _ _ ⟨he, hp, hk⟩ => ⟨he, h.at_purse hp hk⟩
theorem take_dk (n : Int) (h : DkAt w F E d p lk k of D S K next) :
    Calls Tryz.prog 127 #[.pointer (some ⟨p, 0, none⟩), .int .i64 n] w fun e w' => e = .returned (.int .i64 (S.asked n)) ∧ DkTo w F E d p lk k of D (S.take n) K next w' :=
  (take_any p lk of S n w h.purse).mono fun _ _ ⟨he, hp, hk⟩ => ⟨he, h.at_purse hp hk⟩
theorem give_dk (n : Int) (h : DkAt w F E d p lk k of D S K next) :
    Calls Tryz.prog 129 #[.pointer (some ⟨p, 0, none⟩), .int .i64 n] w fun e w' => e = .returned (.int .i64 (S.gives n)) ∧ DkTo w F E d p lk k of D (S.give n) K next w' :=
  (give_any p lk of S n w h.purse).mono fun _ _ ⟨he, hp, hk⟩ => ⟨he, h.at_purse hp hk⟩
theorem create_dk (s : ByteArray) (h : DkAt w F E d p lk k of D S K next) :
    Calls Tryz.prog 128 #[.pointer (some ⟨d, 0, none⟩), .string s] w fun e w' => e = .returned (.int .i64 (D.create s).2) ∧ DkTo w F E d p lk k of (D.create s).1 S K next w' := by
  obtain ⟨R, hd⟩ := h.disk
  exact (create_any d D R F E s w hd h.envd).mono fun _ _ ⟨he, ht⟩ => ⟨he, h.at_disk ht⟩
end

/-- What Write comes to. -/
def openW (D : DSt) (S : PSt) (K : Int) (name : ByteArray) (kind : Int) : Int × DSt × PSt :=
  if ¬ (1 ≤ kind ∧ kind ≤ 5) then (1, D, S) else if D.on = false then (10, D, S) else if ¬ D.fresh name = 0 then (D.fresh name, D, S) else if S.frees < K then (2, D, S)
  else if ¬ (D.create name).2 = 0 then ((D.create name).2, (D.create name).1, (S.take K).give K) else (0, (D.create name).1, S.take K)

/-- What stands behind Write: a refusal and none, or a writer. -/
structure WrPost (w : World) (F : Nat → Prop) (E : Nat → Addr) (d p lk k : Nat) (of : Option Nat) (X : Int × DSt × PSt) (K next : Int) (name : ByteArray) (kind : Int) (e : Ending) (w' : World) : Prop where mk ::
  out : ∃ F', DkAt w' F' E d p lk k of X.2.1 X.2.2 K next ∧ Stp w (RF F p lk k) w' (RF F' p lk k) ∧
    ((¬ X.1 = 0 ∧ e = .returned (.tuple #[.pointer none, .int .i64 X.1])) ∨
     (X.1 = 0 ∧ ∃ b, e = .returned (.tuple #[.pointer (some ⟨b, 0, none⟩), .int .i64 0]) ∧ w.heap.size ≤ b ∧ ¬ RF F' p lk k b ∧ Blk w' b 248 (wrCells k name kind (.slice none 0 0) 0 false 0 0)))

theorem WrPost.bad {w w' : World} {F : Nat → Prop} {E : Nat → Addr} {d p lk k : Nat} {of : Option Nat} {X : Int × DSt × PSt} {K next : Int} {name : ByteArray} {kind : Int} (n : Int) (D : DSt) (S : PSt) (hX : X = (n, D, S)) (hn : ¬ n = 0)
    (h : DkTo w F E d p lk k of D S K next w') : WrPost w F E d p lk k of X K next name kind (.returned (.tuple #[.pointer none, .int .i64 n])) w' := by
  subst hX
  obtain ⟨F', h1, h2⟩ := h
  exact ⟨F', h1, h2, .inl ⟨hn, rfl⟩⟩

theorem WrPost.good {w w4 : World} {F F4 : Nat → Prop} {E : Nat → Addr} {d p lk k : Nat} {of : Option Nat} {X : Int × DSt × PSt} {K next : Int} {name : ByteArray} {kind : Int} (D : DSt) (S : PSt) (hX : X = (0, D, S))
    (h : DkAt w4 F4 E d p lk k of D S K next) (hs : Stp w (RF F p lk k) w4 (RF F4 p lk k)) :
    WrPost w F E d p lk k of X K next name kind (.returned (.tuple #[.pointer (some ⟨w4.heap.size, 0, none⟩), .int .i64 0])) (w4.alloc (.cells (wrCells k name kind (.slice none 0 0) 0 false 0 0) 248)) := by
  subst hX
  exact ⟨F4, h.nil ((Keep.refl Nil _).alloc _), hs.then_nil ((Keep.refl Nil _).alloc _), .inr ⟨rfl, w4.heap.size, rfl, hs.keep.size, fun hb => Nat.lt_irrefl _ (h.lt _ hb), Blk.new _ _ _⟩⟩

set_option maxRecDepth 100000 in
set_option maxHeartbeats 4000000 in
theorem write_any (F : Nat → Prop) (E : Nat → Addr) (d p lk k : Nat) (of : Option Nat) (D : DSt) (S : PSt) (K next : Int) (name : ByteArray) (kind : Int) (w : World) (h : DkAt w F E d p lk k of D S K next) (hK : 0 < K) :
    Calls Tryz.prog 62 #[.pointer (some ⟨k, 0, none⟩), .string name, .int .i64 kind] w (WrPost w F E d p lk k of (openW D S K name kind) K next name kind) := by
  have c0 : w.cell? ⟨k, 0, none⟩ = some (.pointer (some ⟨d, 0, none⟩)) := h.desk.at_ 0
  have c1 : w.cell? ⟨k, 1, none⟩ = some (.pointer (some ⟨p, 0, none⟩)) := h.desk.at_ 1
  have c2 : w.cell? ⟨k, 2, none⟩ = some (.int .i64 K) := h.desk.at_ 2
  by_cases h1 : 1 ≤ kind ∧ kind ≤ 5
  · have e1 := Hid.intro_ (show (decide (1 ≤ kind) && decide (kind ≤ 5)) = true by simp; exact h1)
    cases h2 : D.on
    · have HX := Hid.intro_ (show openW D S K name kind = (10, D, S) by simp [openW, h1, h2])
      obtain ⟨R, hd⟩ := h.disk
      have ho := on_any d D R F w hd
      rw [h2] at ho
      clear h1 h2
      go_enter Tryz.func62, Tryz.ntmps62
      go_wp2_with (first
        | (go_at_call 124; refine (known_any kind _).mono ?_; rw [e1.out]; rintro e w' ⟨rfl, hw⟩; obtain rfl := hw.symm)
        | (go_at_call 86; refine ho.mono ?_; rintro e w' ⟨rfl, hw⟩; obtain rfl := hw.symm))
      go_ret2
      exact WrPost.bad 10 D S HX.out (by decide) (DkTo.refl h)
    have ho : Calls Tryz.prog 86 #[.pointer (some ⟨d, 0, none⟩)] w fun e w' => e = .returned (.bool true) ∧ w' = w := by
      obtain ⟨R, hd⟩ := h.disk
      have := on_any d D R F w hd
      rwa [h2] at this
    have hf := fresh_any F E d p lk k of D S K next name w h
    by_cases h3 : D.fresh name = 0
    · rw [h3] at hf
      have HF := Hid.intro_ hf
      by_cases h4 : S.frees < K
      · have HX := Hid.intro_ (show openW D S K name kind = (2, D, S) by simp [openW, h1, h2, h3, h4])
        have HQ := Hid.intro_ h4
        clear h1 h2 h3 hf h4
        go_enter Tryz.func62, Tryz.ntmps62
        go_wp2_with (first
          | (go_at_call 124; refine (known_any kind _).mono ?_; rw [e1.out]; rintro e w' ⟨rfl, hw⟩; obtain rfl := hw.symm)
          | (go_at_call 86; refine ho.mono ?_; rintro e w' ⟨rfl, hw⟩; obtain rfl := hw.symm)
          | (go_at_call 125; refine HF.out.mono ?_; rintro e w1 ⟨rfl, hk1⟩
             have h1 := h.nil hk1
             have d1 : w1.cell? ⟨k, 1, none⟩ = some (.pointer (some ⟨p, 0, none⟩)) := h1.desk.at_ 1
             have d2 : w1.cell? ⟨k, 2, none⟩ = some (.int .i64 K) := h1.desk.at_ 2))
        go_cut [35] from 26 to 35 (fun v wc => v = .bool (decide (S.frees < K)) ∧ DkTo w F E d p lk k of D S K next wc)
        case first =>
          go_region_with (go_at_call 126; refine (frees_dk (h1.nil ((Keep.refl Nil _).drew))).mono ?_; rintro e w2 ⟨rfl, ht⟩
                          have d2' : w2.cell? ⟨k, 2, none⟩ = some (.int .i64 K) := by obtain ⟨F2, h2, _⟩ := ht; exact h2.desk.at_ 2)
          all_goals
            go_wp2_with fail
            go_meet
            exact ⟨rfl, ht.from_nil hk1.drew⟩
        case rest =>
          obtain ⟨rfl, F2, h2, s2⟩ := hcut
          have hq := HQ.out
          go_wp2_with fail
          go_ret2
          exact WrPost.bad 2 D S HX.out (by decide) ⟨F2, h2, s2⟩
      · have hask := Hid.intro_ (asked_frees hK h4)
        have HQ := Hid.intro_ h4
        by_cases h5 : (D.create name).2 = 0
        · have HX := Hid.intro_ (show openW D S K name kind = (0, (D.create name).1, S.take K) by simp [openW, h1, h2, h3, h4, h5])
          have HC := Hid.intro_ h5
          clear h1 h2 h3 hf h4 h5
          go_enter Tryz.func62, Tryz.ntmps62
          go_wp2_with (first
            | (go_at_call 124; refine (known_any kind _).mono ?_; rw [e1.out]; rintro e w' ⟨rfl, hw⟩; obtain rfl := hw.symm)
            | (go_at_call 86; refine ho.mono ?_; rintro e w' ⟨rfl, hw⟩; obtain rfl := hw.symm)
            | (go_at_call 125; refine HF.out.mono ?_; rintro e w1 ⟨rfl, hk1⟩
               have h1 := h.nil hk1
               have d1 : w1.cell? ⟨k, 1, none⟩ = some (.pointer (some ⟨p, 0, none⟩)) := h1.desk.at_ 1
               have d2 : w1.cell? ⟨k, 2, none⟩ = some (.int .i64 K) := h1.desk.at_ 2))
          go_cut [35] from 26 to 35 (fun v wc => v = .bool (decide (S.frees < K)) ∧ DkTo w F E d p lk k of D S K next wc)
          case first =>
            go_region_with (go_at_call 126; refine (frees_dk (h1.nil ((Keep.refl Nil _).drew))).mono ?_; rintro e w2 ⟨rfl, ht⟩
                            have d2' : w2.cell? ⟨k, 2, none⟩ = some (.int .i64 K) := by obtain ⟨F2, h2, _⟩ := ht; exact h2.desk.at_ 2)
            all_goals
              go_wp2_with fail
              go_meet
              exact ⟨rfl, ht.from_nil hk1.drew⟩
          case rest =>
            obtain ⟨rfl, F2, h2, s2⟩ := hcut
            have hq := HQ.out
            have x0 : wc.cell? ⟨k, 0, none⟩ = some (.pointer (some ⟨d, 0, none⟩)) := h2.desk.at_ 0
            have x1 : wc.cell? ⟨k, 1, none⟩ = some (.pointer (some ⟨p, 0, none⟩)) := h2.desk.at_ 1
            have x2 : wc.cell? ⟨k, 2, none⟩ = some (.int .i64 K) := h2.desk.at_ 2
            go_wp2_with fail
            go_still_tail 8, (by kernel_rfl)
            change wpList _ _ _ _ _ wc.drew
            go_wp2_with (first
              | (go_at_call 127; refine (take_dk K (h2.nil ((Keep.refl Nil _).drew))).mono ?_; rw [hask.out]; rintro e w3 ⟨rfl, F3, h3, s3⟩
                 have y0 : w3.cell? ⟨k, 0, none⟩ = some (.pointer (some ⟨d, 0, none⟩)) := h3.desk.at_ 0)
              | (go_at_call 128; refine (create_dk name h3).mono ?_; rw [HC.out]; rintro e w4 ⟨rfl, F4, h4, s4⟩))
            go_ret2
            exact WrPost.good _ _ HX.out h4 (((s2.then_nil ((Keep.refl Nil _).drew)).trans s3).trans s4)
        · have HX := Hid.intro_ (show openW D S K name kind = ((D.create name).2, (D.create name).1, (S.take K).give K) by simp [openW, h1, h2, h3, h4, h5])
          have HC := Hid.intro_ h5
          have q : ((D.create name).2 == 0) = false := by simpa using h5
          obtain ⟨cr, hcr⟩ : ∃ x, x = (D.create name).2 := ⟨_, rfl⟩
          rw [← hcr] at q
          have HCR := Hid.intro_ hcr
          clear h1 h2 h3 hf h4 h5 hcr
          go_enter Tryz.func62, Tryz.ntmps62
          go_wp2_with (first
            | (go_at_call 124; refine (known_any kind _).mono ?_; rw [e1.out]; rintro e w' ⟨rfl, hw⟩; obtain rfl := hw.symm)
            | (go_at_call 86; refine ho.mono ?_; rintro e w' ⟨rfl, hw⟩; obtain rfl := hw.symm)
            | (go_at_call 125; refine HF.out.mono ?_; rintro e w1 ⟨rfl, hk1⟩
               have h1 := h.nil hk1
               have d1 : w1.cell? ⟨k, 1, none⟩ = some (.pointer (some ⟨p, 0, none⟩)) := h1.desk.at_ 1
               have d2 : w1.cell? ⟨k, 2, none⟩ = some (.int .i64 K) := h1.desk.at_ 2))
          go_cut [35] from 26 to 35 (fun v wc => v = .bool (decide (S.frees < K)) ∧ DkTo w F E d p lk k of D S K next wc)
          case first =>
            go_region_with (go_at_call 126; refine (frees_dk (h1.nil ((Keep.refl Nil _).drew))).mono ?_; rintro e w2 ⟨rfl, ht⟩
                            have d2' : w2.cell? ⟨k, 2, none⟩ = some (.int .i64 K) := by obtain ⟨F2, h2, _⟩ := ht; exact h2.desk.at_ 2)
            all_goals
              go_wp2_with fail
              go_meet
              exact ⟨rfl, ht.from_nil hk1.drew⟩
          case rest =>
            obtain ⟨rfl, F2, h2, s2⟩ := hcut
            have hq := HQ.out
            have x0 : wc.cell? ⟨k, 0, none⟩ = some (.pointer (some ⟨d, 0, none⟩)) := h2.desk.at_ 0
            have x1 : wc.cell? ⟨k, 1, none⟩ = some (.pointer (some ⟨p, 0, none⟩)) := h2.desk.at_ 1
            have x2 : wc.cell? ⟨k, 2, none⟩ = some (.int .i64 K) := h2.desk.at_ 2
            go_wp2_with fail
            go_still_tail 8, (by kernel_rfl)
            change wpList _ _ _ _ _ wc.drew
            go_wp2_with (first
              | (go_at_call 127; refine (take_dk K (h2.nil ((Keep.refl Nil _).drew))).mono ?_; rw [hask.out]; rintro e w3 ⟨rfl, F3, h3, s3⟩
                 have y0 : w3.cell? ⟨k, 0, none⟩ = some (.pointer (some ⟨d, 0, none⟩)) := h3.desk.at_ 0)
              | (go_at_call 128; refine (create_dk name h3).mono ?_; rw [← HCR.out]; rintro e w4 ⟨rfl, F4, h4, s4⟩
                 have z1 : w4.cell? ⟨k, 1, none⟩ = some (.pointer (some ⟨p, 0, none⟩)) := h4.desk.at_ 1
                 have z2 : w4.cell? ⟨k, 2, none⟩ = some (.int .i64 K) := h4.desk.at_ 2))
            go_still_tail 8, (by kernel_rfl)
            change wpList _ _ _ _ _ w4.drew
            go_wp2_with (go_at_call 129; refine (give_dk K (h4.nil ((Keep.refl Nil _).drew))).mono ?_; rintro e w5 ⟨rfl, F5, h5, s5⟩)
            go_ret2
            rw [HCR.out]
            exact WrPost.bad _ _ _ HX.out HC.out ⟨F5, h5, ((((s2.then_nil ((Keep.refl Nil _).drew)).trans s3).trans s4).then_nil ((Keep.refl Nil _).drew)).trans s5⟩
    · have HX := Hid.intro_ (show openW D S K name kind = (D.fresh name, D, S) by simp [openW, h1, h2, h3])
      have HN := Hid.intro_ h3
      have q : (D.fresh name == 0) = false := by simpa using h3
      generalize D.fresh name = n at *
      clear h1 h2 h3
      go_enter Tryz.func62, Tryz.ntmps62
      go_wp2_with (first
        | (go_at_call 124; refine (known_any kind _).mono ?_; rw [e1.out]; rintro e w' ⟨rfl, hw⟩; obtain rfl := hw.symm)
        | (go_at_call 86; refine ho.mono ?_; rintro e w' ⟨rfl, hw⟩; obtain rfl := hw.symm)
        | (go_at_call 125; refine hf.mono ?_; rintro e w1 ⟨rfl, hk1⟩))
      go_ret2
      exact WrPost.bad n D S HX.out HN.out ((DkTo.refl h).nil hk1)
  · have e1 := Hid.intro_ (show (decide (1 ≤ kind) && decide (kind ≤ 5)) = false by simp; omega)
    have HX := Hid.intro_ (show openW D S K name kind = (1, D, S) by simp only [openW, h1, not_false_eq_true, if_true])
    clear h1
    go_enter Tryz.func62, Tryz.ntmps62
    go_wp2_with (go_at_call 124; refine (known_any kind _).mono ?_; rw [e1.out]; rintro e w' ⟨rfl, hw⟩; obtain rfl := hw.symm)
    go_ret2
    exact WrPost.bad 1 D S HX.out (by decide) (DkTo.refl h)
end Go.Proofs.YtadipinnbehhhaaGreatDoor
namespace Go.Proofs.YtadipinnbehhhaaGreatDoor
open Go.RowKit

/-- The room and one block more. -/
def SF (F : Nat → Prop) (p lk k b : Nat) : Nat → Prop := fun x => RF F p lk k x ∨ x = b

/-- A desk, and beside it one block: a writer or a reader. -/
structure WAt (w : World) (F : Nat → Prop) (E : Nat → Addr) (d p lk k : Nat) (of : Option Nat) (K next : Int) (b : Nat) (T : TypeId) (D : DSt) (S : PSt) (cs : Array Value) : Prop where mk ::
  dk : DkAt w F E d p lk k of D S K next
  blk : Blk w b T cs
  nb : ¬ RF F p lk k b
  ev : ∀ i, i < 9 → errVar i ≠ b
  eb : ∀ i, i < 9 → (E i).block ≠ b

section
variable {w w' w2 : World} {F F' : Nat → Prop} {E : Nat → Addr} {d p lk k : Nat} {of : Option Nat} {D D' D2 : DSt} {S S' S2 : PSt} {K next : Int} {b : Nat} {T : TypeId} {cs cs' cs2 : Array Value}

def WTo (w : World) (F : Nat → Prop) (E : Nat → Addr) (d p lk k : Nat) (of : Option Nat) (K next : Int) (b : Nat) (T : TypeId) (D' : DSt) (S' : PSt) (cs' : Array Value) (w' : World) : Prop :=
  ∃ F', WAt w' F' E d p lk k of K next b T D' S' cs' ∧ Stp w (SF F p lk k b) w' (SF F' p lk k b)

theorem WTo.refl (h : WAt w F E d p lk k of K next b T D S cs) : WTo w F E d p lk k of K next b T D S cs w := ⟨F, h, Stp.refl _ _⟩
theorem WAt.nil (h : WAt w F E d p lk k of K next b T D S cs) (q : Keep Nil w w') : WAt w' F E d p lk k of K next b T D S cs := ⟨h.dk.nil q, h.blk.keep q (fun h => h), h.nb, h.ev, h.eb⟩
theorem WTo.nil (h : WTo w F E d p lk k of K next b T D S cs w') (q : Keep Nil w' w2) : WTo w F E d p lk k of K next b T D S cs w2 := by
  obtain ⟨F1, h1, s1⟩ := h
  exact ⟨F1, h1.nil q, s1.then_nil q⟩
theorem WTo.from_nil {w0 : World} (h : WTo w F E d p lk k of K next b T D S cs w') (q : Keep Nil w0 w) : WTo w0 F E d p lk k of K next b T D S cs w' := by
  obtain ⟨F1, h1, s1⟩ := h
  exact ⟨F1, h1, (Stp.of_nil q _).trans s1⟩
theorem WTo.then_ (h : WTo w F E d p lk k of K next b T D S cs w') (t : ∀ F', WAt w' F' E d p lk k of K next b T D S cs → WTo w' F' E d p lk k of K next b T D2 S2 cs2 w2) : WTo w F E d p lk k of K next b T D2 S2 cs2 w2 := by
  obtain ⟨F1, h1, s1⟩ := h
  obtain ⟨F2, h2, s2⟩ := t F1 h1
  exact ⟨F2, h2, s1.trans s2⟩
/-- The room turned. -/
theorem WAt.at_dk (h : WAt w F E d p lk k of K next b T D S cs) (t : DkTo w F E d p lk k of D' S' K next w') : WTo w F E d p lk k of K next b T D' S' cs w' := by
  obtain ⟨F', h1, s1⟩ := t
  have hlt := h.blk.lt
  refine ⟨F', ⟨h1, h.blk.keep s1.keep h.nb, fun hb => (s1.grow b hb).elim h.nb (fun hl => by omega), h.ev, h.eb⟩, s1.keep.mono (fun x _ hx => .inl hx), fun x hx => ?_⟩
  rcases hx with hx | hx
  · exact (s1.grow x hx).elim (fun h => .inl (.inl h)) .inr
  · exact .inl (.inr hx)
/-- A cell of the block turned. -/
theorem WAt.at_blk (h : WAt w F E d p lk k of K next b T D S cs) (q : Keep (fun x => x = b) w w') (hb : Blk w' b T cs') : WTo w F E d p lk k of K next b T D S cs' w' :=
  ⟨F, ⟨h.dk.keep q (fun x hx e => h.nb (by rw [show b = x from (show x = b from e).symm]; exact hx)) (fun i hi e => h.ev i hi e) (fun i hi e => h.eb i hi e), hb, h.nb, h.ev, h.eb⟩, q.mono (fun x _ e => .inr e), fun x hx => .inl hx⟩
theorem WAt.set (h : WAt w F E d p lk k of K next b T D S cs) (i : Nat) (u : Value) : WTo w F E d p lk k of K next b T D S (cs.setIfInBounds i u) (w.setCell ⟨b, i, none⟩ u) :=
  h.at_blk ((Keep.refl (fun x => x = b) w).setCell (p := ⟨b, i, none⟩) (fun _ => rfl) u) (h.blk.set_ i u)
theorem WAt.ne (h : WAt w F E d p lk k of K next b T D S cs) : b ≠ k ∧ b ≠ p ∧ b ≠ lk := ⟨fun e => h.nb (.inr (.inr e)), fun e => h.nb (.inr (.inl (.inl e))), fun e => h.nb (.inr (.inl (.inr e)))⟩
end

def stSt (done : Bool) (dead : Int) : Int := if done = true then 6 else dead

set_option maxHeartbeats 1000000 in
theorem state_any (b k : Nat) (dead : Int) (done : Bool) (w : World) (c0 : w.cell? ⟨b, 0, none⟩ = some (.pointer (some ⟨k, 0, none⟩))) (c4 : w.cell? ⟨b, 4, none⟩ = some (.int .i64 dead)) (c5 : w.cell? ⟨b, 5, none⟩ = some (.bool done)) :
    Calls Tryz.prog 149 #[.pointer (some ⟨b, 0, none⟩)] w fun e w' => e = .returned (.int .i64 (stSt done dead)) ∧ w' = w := by
  unfold stSt
  cases done
  all_goals
    go_enter Tryz.func149, Tryz.ntmps149
    go_wp2
    go_ret
    exact ⟨rfl, rfl⟩

/-- A refusal that ends a stream. -/
def kills (e : Int) : Bool := decide (e = 10) || decide (e = 9) || decide (e = 17) || decide (e = 30) || decide (e = 31) || decide (e = 32)

set_option maxHeartbeats 1000000 in
theorem die_any (b : Nat) (x : Int) (u : Value) (w : World) (c4 : w.cell? ⟨b, 4, none⟩ = some u) (f4 : w.frozen? ⟨b, 4, none⟩ = false) :
    Calls Tryz.prog 194 #[.pointer (some ⟨b, 0, none⟩), .int .i64 x] w fun e w' => e = .returned (.int .i64 x) ∧ w' = if kills x = true then w.setCell ⟨b, 4, none⟩ (.int .i64 x) else w := by
  by_cases h1 : x = 10 ∨ x = 9 ∨ x = 17 ∨ x = 30 ∨ x = 31 ∨ x = 32
  · have e : kills x = true := by rcases h1 with rfl | rfl | rfl | rfl | rfl | rfl <;> rfl
    rw [e, if_pos rfl]
    rcases h1 with rfl | rfl | rfl | rfl | rfl | rfl
    all_goals
      clear e
      go_enter Tryz.func194, Tryz.ntmps194
      go_wp2
      go_ret
      exact ⟨rfl, rfl⟩
  · have e : kills x = false := by simp [kills]; omega
    rw [e, if_neg (by decide)]
    have q1 : (x == 10) = false := by simp; omega
    have q2 : (x == 9) = false := by simp; omega
    have q3 : (x == 17) = false := by simp; omega
    have q4 : (x == 30) = false := by simp; omega
    have q5 : (x == 31) = false := by simp; omega
    have q6 : (x == 32) = false := by simp; omega
    clear e h1
    go_enter Tryz.func194, Tryz.ntmps194
    go_wp2
    go_ret
    exact ⟨rfl, rfl⟩

set_option maxRecDepth 100000 in
set_option maxHeartbeats 2000000 in
theorem end_stream (F : Nat → Prop) (E : Nat → Addr) (d p lk k : Nat) (of : Option Nat) (K next : Int) (b : Nat) (T : TypeId) (D : DSt) (S : PSt) (cs : Array Value) (u3 u5 : Value) (w : World) (h : WAt w F E d p lk k of K next b T D S cs)
    (c0 : cs[0]? = some (.pointer (some ⟨k, 0, none⟩))) (c3 : cs[3]? = some u3) (c5 : cs[5]? = some u5) :
    Calls Tryz.prog 150 #[.pointer (some ⟨b, 0, none⟩)] w fun e w' => e = .returned (.tuple #[]) ∧ WTo w F E d p lk k of K next b T D (S.give K) ((cs.setIfInBounds 5 (.bool true)).setIfInBounds 3 (.slice none 0 0)) w' := by
  have x0 : w.cell? ⟨b, 0, none⟩ = some (.pointer (some ⟨k, 0, none⟩)) := (h.blk.at_ 0).trans c0
  have x3 : w.cell? ⟨b, 3, none⟩ = some u3 := (h.blk.at_ 3).trans c3
  have x5 : w.cell? ⟨b, 5, none⟩ = some u5 := (h.blk.at_ 5).trans c5
  have y3 := h.blk.fr 3
  have y5 := h.blk.fr 5
  have z1 : w.cell? ⟨k, 1, none⟩ = some (.pointer (some ⟨p, 0, none⟩)) := h.dk.desk.at_ 1
  have z2 : w.cell? ⟨k, 2, none⟩ = some (.int .i64 K) := h.dk.desk.at_ 2
  obtain ⟨nk, np, nl⟩ := h.ne
  have nk' : ¬ k = b := Ne.symm nk
  have hs := (h.set 5 (.bool true)).then_ (fun F1 h1 => h1.set 3 (.slice none 0 0))
  obtain ⟨F1, h1, s1⟩ := hs
  have t0 := (h1.blk.at_ 0).trans (show ((cs.setIfInBounds 5 (.bool true)).setIfInBounds 3 (.slice none 0 0))[0]? = some (.pointer (some ⟨k, 0, none⟩)) by rw [Array.getElem?_setIfInBounds_ne (by decide), Array.getElem?_setIfInBounds_ne (by decide)]; exact c0)
  have t1 : World.cell? _ ⟨k, 1, none⟩ = some (.pointer (some ⟨p, 0, none⟩)) := h1.dk.desk.at_ 1
  have t2 : World.cell? _ ⟨k, 2, none⟩ = some (.int .i64 K) := h1.dk.desk.at_ 2
  have T0 := Hid.intro_ t0
  have T1 := Hid.intro_ t1
  have T2 := Hid.intro_ t2
  clear c0 c3 c5 t0 t1 t2
  go_enter Tryz.func150, Tryz.ntmps150
  go_wp2
  generalize (w.setCell ⟨b, 5, none⟩ (.bool true)).setCell ⟨b, 3, none⟩ (.slice none 0 0) = X at *
  have t0 := T0.out
  have t1 := T1.out
  have t2 := T2.out
  go_still_tail 14, (by kernel_rfl)
  change wpList _ _ _ _ _ X.drew
  have hg := give_dk K (h1.dk.nil ((Keep.refl Nil _).drew))
  go_wp2_with (go_at_call 129; refine hg.mono ?_; rintro e w2 ⟨rfl, ht⟩)
  go_end0
  obtain ⟨F3, h3, s3⟩ := (h1.nil ((Keep.refl Nil _).drew)).at_dk ht
  exact ⟨rfl, F3, h3, (s1.then_nil ((Keep.refl Nil _).drew)).trans s3⟩
end Go.Proofs.YtadipinnbehhhaaGreatDoor
namespace Go.Proofs.YtadipinnbehhhaaGreatDoor
open Go.RowKit

/-- A writer over a desk. -/
abbrev WrAt (w : World) (F : Nat → Prop) (E : Nat → Addr) (d p lk k : Nat) (of : Option Nat) (K next : Int) (b : Nat) (D : DSt) (S : PSt) (name : ByteArray) (kind : Int) (lst : Value) (dead : Int) (done : Bool) (place count : Int) : Prop :=
  WAt w F E d p lk k of K next b 248 D S (wrCells k name kind lst dead done place count)

set_option maxHeartbeats 400000 in
theorem count_any (b : Nat) (n : Int) (w : World) (c7 : w.cell? ⟨b, 7, none⟩ = some (.int .i64 n)) :
    Calls Tryz.prog 136 #[.pointer (some ⟨b, 0, none⟩)] w fun e w' => e = .returned (.int .i64 n) ∧ w' = w := by
  go_enter Tryz.func136, Tryz.ntmps136
  go_wp2
  go_ret
  exact ⟨rfl, rfl⟩

theorem delete_dk {w : World} {F : Nat → Prop} {E : Nat → Addr} {d p lk k : Nat} {of : Option Nat} {D : DSt} {S : PSt} {K next : Int} (s : ByteArray) (h : DkAt w F E d p lk k of D S K next) :
    Calls Tryz.prog 151 #[.pointer (some ⟨d, 0, none⟩), .string s] w fun e w' => e = .returned (.int .i64 (D.delete s).2) ∧ DkTo w F E d p lk k of (D.delete s).1 S K next w' := by
  obtain ⟨R, hd⟩ := h.disk
  exact (delete_any d D R F E s w hd h.envd).mono fun _ _ ⟨he, ht⟩ => ⟨he, h.at_disk ht⟩

set_option maxRecDepth 100000 in
set_option maxHeartbeats 2000000 in
theorem drop_closed (F : Nat → Prop) (E : Nat → Addr) (d p lk k : Nat) (of : Option Nat) (K next : Int) (b : Nat) (D : DSt) (S : PSt) (name : ByteArray) (kind : Int) (lst : Value) (dead : Int) (place count : Int) (w : World)
    (h : WrAt w F E d p lk k of K next b D S name kind lst dead true place count) :
    Calls Tryz.prog 73 #[.pointer (some ⟨b, 0, none⟩)] w fun e w' => e = .returned (.int .i64 6) ∧ w' = w := by
  have hs := state_any b k dead true w (h.blk.at_ 0) (h.blk.at_ 4) (h.blk.at_ 5)
  rw [show stSt true dead = 6 from rfl] at hs
  go_enter Tryz.func73, Tryz.ntmps73
  go_wp2_with (go_at_call 149; refine hs.mono ?_; rintro e w' ⟨rfl, rfl⟩)
  go_ret
  exact ⟨rfl, rfl⟩

set_option maxRecDepth 100000 in
set_option maxHeartbeats 2000000 in
theorem drop_open (F : Nat → Prop) (E : Nat → Addr) (d p lk k : Nat) (of : Option Nat) (K next : Int) (b : Nat) (D : DSt) (S : PSt) (name : ByteArray) (kind : Int) (lst : Value) (dead : Int) (place count : Int) (w : World)
    (h : WrAt w F E d p lk k of K next b D S name kind lst dead false place count) (hd : ¬ dead = 6) :
    Calls Tryz.prog 73 #[.pointer (some ⟨b, 0, none⟩)] w fun e w' => e = .returned (.int .i64 (D.delete name).2) ∧
      WTo w F E d p lk k of K next b 248 (D.delete name).1 (S.give K) (wrCells k name kind (.slice none 0 0) dead true place count) w' := by
  have hs := state_any b k dead false w (h.blk.at_ 0) (h.blk.at_ 4) (h.blk.at_ 5)
  rw [show stSt false dead = dead from rfl] at hs
  have he := end_stream F E d p lk k of K next b 248 D S _ lst (.bool false) w h rfl rfl rfl
  have q : (dead == 6) = false := by simpa using hd
  have HE := Hid.intro_ he
  clear hd he
  go_enter Tryz.func73, Tryz.ntmps73
  go_wp2_with (first
    | (go_at_call 149; refine hs.mono ?_; rintro e w' ⟨rfl, hw⟩; obtain rfl := hw.symm)
    | (go_at_call 150; refine HE.out.mono ?_; rintro e w1 ⟨rfl, F1, h1, s1⟩
       have t0 : w1.cell? ⟨b, 0, none⟩ = some (.pointer (some ⟨k, 0, none⟩)) := h1.blk.at_ 0
       have t1 : w1.cell? ⟨b, 1, none⟩ = some (.string name) := h1.blk.at_ 1
       have t2 : w1.cell? ⟨k, 0, none⟩ = some (.pointer (some ⟨d, 0, none⟩)) := h1.dk.desk.at_ 0))
  go_still_tail 13, (by kernel_rfl)
  change wpList _ _ _ _ _ w1.drew
  go_wp2_with (go_at_call 151; refine (delete_dk name (h1.dk.nil ((Keep.refl Nil _).drew))).mono ?_; rintro e w2 ⟨rfl, ht⟩)
  go_ret
  obtain ⟨F3, h3, s3⟩ := (h1.nil ((Keep.refl Nil _).drew)).at_dk ht
  exact ⟨rfl, F3, h3, (s1.then_nil ((Keep.refl Nil _).drew)).trans s3⟩
end Go.Proofs.YtadipinnbehhhaaGreatDoor
namespace Go.Proofs.YtadipinnbehhhaaGreatDoor
open Go.RowKit

/-- What does not turn of a room: the errors, the disk, the purse, its lock, the desk, the bytes of a block. -/
structure Cx where
  E : Nat → Addr
  d : Nat
  p : Nat
  lk : Nat
  k : Nat
  of : Option Nat
  K : Nat
  block : Nat

structure RSt where
  D : DSt
  S : PSt
  next : Int

/-- Package recs' two tables lie as their initialisers laid them. -/
def MagicAt (w : World) : Prop := ∀ (i : Nat) (x : Int), [83, 84, 82, 65][i]? = some x → w.cell? ⟨9, i, none⟩ = some (.int .u8 x)

/-- What lies beside the frame G: the error variables, the tables. -/
structure Envs (E : Nat → Addr) (w : World) (G : Nat → Prop) : Prop where
  errs : Env w G E
  halves : HalvesAt w
  magic : MagicAt w
  nh : ¬ G 11
  nm : ¬ G 9

theorem HalvesAt.keep {w w' : World} {F : Nat → Prop} (h : HalvesAt w) (k : Keep F w w') (hn : ¬ F 11) : HalvesAt w' := fun i hi => cell_keep (h i hi) k hn
theorem MagicAt.keep {w w' : World} {F : Nat → Prop} (h : MagicAt w) (k : Keep F w w') (hn : ¬ F 9) : MagicAt w' := fun i x hi => cell_keep (h i x hi) k hn

section
variable {E : Nat → Addr} {w w' w2 : World} {G G' G2 H : Nat → Prop}
theorem Envs.step (h : Envs E w G) (s : Stp w G w' G') : Envs E w' G' := {
  errs := h.errs.step s
  halves := h.halves.keep s.keep h.nh
  magic := h.magic.keep s.keep h.nm
  nh := fun hf => (s.grow _ hf).elim h.nh (fun hl => by have := cell_lt (h.halves 0 (by decide)); simp only at this; omega)
  nm := fun hf => (s.grow _ hf).elim h.nm (fun hl => by have := cell_lt (h.magic 0 83 rfl); simp only at this; omega) }
theorem Envs.nil (h : Envs E w G) (k : Keep Nil w w') : Envs E w' G := h.step (Stp.of_nil k G)
theorem Envs.less (h : Envs E w G) (hs : ∀ b, H b → G b) : Envs E w H := {
  errs := ⟨h.errs.errs, fun i hi hf => h.errs.nv i hi (hs _ hf), fun i hi hf => h.errs.nb i hi (hs _ hf)⟩
  halves := h.halves
  magic := h.magic
  nh := fun hf => h.nh (hs _ hf)
  nm := fun hf => h.nm (hs _ hf) }
/-- A new block comes to the frame. -/
theorem Envs.more (h : Envs E w G) (hs : ∀ b, H b → G b ∨ w.heap.size ≤ b) : Envs E w H := h.step ⟨(Keep.refl _ _), hs⟩

theorem Stp.less (h : Stp w G w' G') (hs : ∀ b, H b → G' b) : Stp w G w' H := ⟨h.keep, fun b hb => h.grow b (hs b hb)⟩
theorem Stp.wide (h : Stp w G w' G') (hs : ∀ b, G b → H b) : Stp w H w' G' := ⟨h.keep.mono (fun b _ hb => hs b hb), fun b hb => (h.grow b hb).elim (fun h => .inl (hs b h)) .inr⟩
/-- A step of a part of the frame. -/
theorem Stp.part (h : Stp w G w' G') (H : Nat → Prop) : Stp w (fun b => G b ∨ H b) w' (fun b => G' b ∨ H b) :=
  ⟨h.keep.mono (fun _ _ hb => .inl hb), fun b hb => hb.elim (fun h1 => (h.grow b h1).elim (fun h => .inl (.inl h)) .inr) (fun h => .inl (.inr h))⟩
/-- What lies beside the frame, and is there already, lies beside it behind a step. -/
theorem Stp.off (h : Stp w G w' G') {b : Nat} (hb : b < w.heap.size) (hn : ¬ G b) : ¬ G' b := fun hg => (h.grow b hg).elim hn (fun hl => by omega)
end

/-- The bytes of a block stay what they are. -/
theorem outcome_block (D : DSt) (fails : Bool) (dn : DSt → DSt) (pt : Int → DSt → DSt) (h1 : ∀ D, (dn D).block = D.block) (h2 : ∀ n D, (pt n D).block = D.block) : (D.outcome fails dn pt).1.block = D.block := by
  unfold DSt.outcome
  split
  · exact h1 _
  · rfl
  · exact h2 _ _
theorem partOf_block {dn : DSt → DSt} (h : ∀ D, (dn D).block = D.block) (n : Int) (D : DSt) : (partOf dn n D).block = D.block := by
  unfold partOf
  split
  · exact h D
  · rfl
theorem append_block (D : DSt) (s : ByteArray) (bs : List Int) : (D.append_ s bs).1.block = D.block := by
  unfold DSt.append_
  split
  · rfl
  split
  · rfl
  split
  · rfl
  split
  · rfl
  split
  · rfl
  refine outcome_block _ _ _ _ (fun _ => rfl) (fun n D => ?_)
  unfold partPut
  split <;> rfl
theorem seal_block (D : DSt) (s : ByteArray) : (D.seal_ s).1.block = D.block := by
  unfold DSt.seal_
  split
  · rfl
  split
  · rfl
  split
  · rfl
  exact outcome_block _ _ _ _ (fun _ => rfl) (partOf_block fun _ => rfl)
theorem create_block (D : DSt) (s : ByteArray) : (D.create s).1.block = D.block := by
  unfold DSt.create
  split
  · rfl
  split
  · rfl
  split
  · rfl
  exact outcome_block _ _ _ _ (fun _ => rfl) (partOf_block fun _ => rfl)
theorem delete_block (D : DSt) (s : ByteArray) : (D.delete s).1.block = D.block := by
  unfold DSt.delete
  split
  · rfl
  split
  · rfl
  exact outcome_block _ _ _ _ (fun _ => rfl) (partOf_block fun _ => rfl)

/-- A room. -/
structure RmAt (c : Cx) (w : World) (G : Nat → Prop) (s : RSt) : Prop where mk ::
  out : ∃ F, G = RF F c.p c.lk c.k ∧ DkAt w F c.E c.d c.p c.lk c.k c.of s.D s.S c.K s.next
  env : Envs c.E w G
  blk : s.D.block = c.block
  fitK : fit c.block = c.K
  posK : 0 < c.K

/-- What a room comes to. -/
def RmTo (c : Cx) (G : Nat → Prop) (s' : RSt) (w w' : World) : Prop := ∃ G', RmAt c w' G' s' ∧ Stp w G w' G'

section
variable {c : Cx} {w w' w2 w0 : World} {G G' : Nat → Prop} {s s' s2 : RSt}
theorem RmAt.lt (h : RmAt c w G s) (b : Nat) (hb : G b) : b < w.heap.size := by
  obtain ⟨F, rfl, hd⟩ := h.out
  exact hd.lt b hb
theorem RmAt.nil (h : RmAt c w G s) (k : Keep Nil w w') : RmAt c w' G s := by
  obtain ⟨F, rfl, hd⟩ := h.out
  exact ⟨⟨F, rfl, hd.nil k⟩, h.env.nil k, h.blk, h.fitK, h.posK⟩
/-- What turns beside the room. -/
theorem RmAt.keep {H : Nat → Prop} (h : RmAt c w G s) (k : Keep H w w') (hG : ∀ b, G b → ¬ H b) (he : Envs c.E w H) : RmAt c w' G s := by
  obtain ⟨F, rfl, hd⟩ := h.out
  refine ⟨⟨F, rfl, hd.keep k hG he.errs.nv he.errs.nb⟩, ?_, h.blk, h.fitK, h.posK⟩
  exact ⟨⟨h.env.errs.errs.keep k he.errs.nv he.errs.nb, h.env.errs.nv, h.env.errs.nb⟩, h.env.halves.keep k he.nh, h.env.magic.keep k he.nm, h.env.nh, h.env.nm⟩
theorem RmTo.refl (h : RmAt c w G s) : RmTo c G s w w := ⟨G, h, Stp.refl _ _⟩
theorem RmTo.nil (h : RmTo c G s' w w') (k : Keep Nil w' w2) : RmTo c G s' w w2 := by
  obtain ⟨G1, h1, s1⟩ := h
  exact ⟨G1, h1.nil k, s1.then_nil k⟩
theorem RmTo.from_nil (h : RmTo c G s' w w') (k : Keep Nil w0 w) : RmTo c G s' w0 w' := by
  obtain ⟨G1, h1, s1⟩ := h
  exact ⟨G1, h1, (Stp.of_nil k _).trans s1⟩
theorem RmTo.then_ (h : RmTo c G s' w w') (t : ∀ G', RmAt c w' G' s' → RmTo c G' s2 w' w2) : RmTo c G s2 w w2 := by
  obtain ⟨G1, h1, s1⟩ := h
  obtain ⟨G2, h2, s2⟩ := t G1 h1
  exact ⟨G2, h2, s1.trans s2⟩
/-- What the desk's words say, in the room's. -/
theorem RmAt.step {F : Nat → Prop} {D' : DSt} {S' : PSt} (h : RmAt c w (RF F c.p c.lk c.k) s) (t : DkTo w F c.E c.d c.p c.lk c.k c.of D' S' c.K s.next w') (hb : D'.block = s.D.block) : RmTo c (RF F c.p c.lk c.k) { s with D := D', S := S' } w w' := by
  obtain ⟨F', h1, s1⟩ := t
  exact ⟨_, ⟨⟨F', rfl, h1⟩, h.env.step s1, hb.trans h.blk, h.fitK, h.posK⟩, s1⟩
end
end Go.Proofs.YtadipinnbehhhaaGreatDoor
namespace Go.Proofs.YtadipinnbehhhaaGreatDoor
open Go.RowKit

/-- m bytes that are 0. -/
def zer (m : Nat) : List Int := List.replicate m 0
theorem zer_len (m : Nat) : (zer m).length = m := by simp [zer]
theorem zer_lo (m : Nat) : loB 0 m = zer m := by
  simp only [loB, zer, Nat.zero_div, Nat.zero_mod]
  rw [List.map_const', List.length_range]; rfl
theorem zer_add (a b : Nat) : zer (a + b) = zer a ++ zer b := by simp [zer]
theorem putL_pre (pre : List Int) (v m : Nat) : ∀ n, n ≤ m → putL (pre ++ zer m) pre.length v n = pre ++ loB v n ++ zer (m - n)
  | 0, _ => by simp [putL, loB]
  | n + 1, h => by
    rw [putL, putL_pre pre v m n (by omega), loB_succ, show m - n = m - (n + 1) + 1 from by omega]
    have e : pre.length + n = (pre ++ loB v n).length := by rw [List.length_append, loB_len]
    rw [e, List.set_append_right _ _ (Nat.le_refl _), Nat.sub_self, ← List.append_assoc pre]
    simp [zer, List.replicate_succ]

/-- put behind what is written already. -/
theorem put_z (g off len cap v n m : Nat) (pre : List Int) (x : Int) (w : World) (hb : Blk w g 5 (by8 (pre ++ zer m)).toArray) (hp : pre.length = off) (hx : x = (n : Int)) (hn : n ≤ 8) (hl : n ≤ len) (hm : n ≤ m) (hv : v < 18446744073709551616) :
    Calls Tryz.prog 271 #[.slice (some ⟨g, off, none⟩) len cap, .int .u64 v, .int .i64 x] w fun e w' => e = .returned (.tuple #[]) ∧ Hid (Blk w' g 5 (by8 (pre ++ loB v n ++ zer (m - n))).toArray) ∧ Keep (fun b => b = g) w w' := by
  subst hx
  have := put_any g off len cap v n (pre ++ zer m) w hb hn hl (by rw [List.length_append, zer_len]; omega) hv
  rw [← hp, putL_pre pre v m n hm] at this
  rw [← hp]
  exact this

theorem index_rec0 (a b c d : Int) (w : World) : (Instr.index 111 (.agg #[.int .u64 a, .int .u64 b, .int .u64 c, .int .u64 d]) (.int .i64 0)).run Tryz.prog w = .ok (.int .u64 a) w := by kernel_rfl
theorem index_rec1 (a b c d : Int) (w : World) : (Instr.index 111 (.agg #[.int .u64 a, .int .u64 b, .int .u64 c, .int .u64 d]) (.int .i64 1)).run Tryz.prog w = .ok (.int .u64 b) w := by kernel_rfl
theorem index_rec2 (a b c d : Int) (w : World) : (Instr.index 111 (.agg #[.int .u64 a, .int .u64 b, .int .u64 c, .int .u64 d]) (.int .i64 2)).run Tryz.prog w = .ok (.int .u64 c) w := by kernel_rfl
theorem index_rec3 (a b c d : Int) (w : World) : (Instr.index 111 (.agg #[.int .u64 a, .int .u64 b, .int .u64 c, .int .u64 d]) (.int .i64 3)).run Tryz.prog w = .ok (.int .u64 d) w := by kernel_rfl
theorem index_rec (q : R4) (j : Nat) (hj : j < 4) (w : World) : (Instr.index 111 (.agg #[.int .u64 q.a, .int .u64 q.b, .int .u64 q.c, .int .u64 q.d]) (.int .i64 j)).run Tryz.prog w = .ok (.int .u64 ((q.ws.getD j 0 : Nat) : Int)) w := by
  match j, hj with
  | 0, _ => exact index_rec0 _ _ _ _ w
  | 1, _ => exact index_rec1 _ _ _ _ w
  | 2, _ => exact index_rec2 _ _ _ _ w
  | 3, _ => exact index_rec3 _ _ _ _ w

/-- Two stores at the head. -/
theorem blk_two {w : World} {g m : Nat} {x y : Int} {pre : List Int} (h : Blk w g 5 (by8 (pre ++ zer (m + 2))).toArray) {n : Nat} (hn : pre.length = n) :
    Blk ((w.setCell ⟨g, n, none⟩ (.int .u8 x)).setCell ⟨g, n + 1, none⟩ (.int .u8 y)) g 5 (by8 (pre ++ [x, y] ++ zer m)).toArray := by
  have h2 := (h.set_ n (.int .u8 x)).set_ (n + 1) (.int .u8 y)
  rw [by8_set, by8_set] at h2
  have e : ((pre ++ zer (m + 2)).set n x).set (n + 1) y = pre ++ [x, y] ++ zer m := by
    subst hn
    rw [List.set_append_right _ _ (Nat.le_refl _), Nat.sub_self, List.set_append_right _ _ (by omega)]
    simp [zer, List.replicate_succ]
  rw [e] at h2
  exact h2

theorem magic_src {w : World} (h : MagicAt w) : ∀ (j : Nat) (v : Value), (by8 [83, 84, 82, 65])[j]? = some v → w.cell? (Addr.add ⟨9, 0, none⟩ j) = some v := by
  intro j v hj
  unfold by8 at hj
  rw [List.getElem?_map, Option.map_eq_some_iff] at hj
  obtain ⟨x, hx, rfl⟩ := hj
  have := h j x hx
  by_cases h0 : j = 0
  · subst h0; simpa [Addr.add] using this
  · simpa [Addr.add, h0] using this
theorem blk_magic {w : World} {g block m : Nat} (e : block = m + 6) (h : w.heap[g]? = some (.cells (splice (by8 (zer block)) 0 (by8 [83, 84, 82, 65])).toArray 5 (0, 0))) : Blk w g 5 (by8 ([83, 84, 82, 65] ++ zer (m + 2))).toArray := by
  unfold Blk
  rw [h]
  congr 2
  subst e
  rw [by8_app, show m + 6 = 4 + (m + 2) from by omega, zer_add, by8_app]
  simp only [splice, List.take_zero, List.nil_append, Nat.zero_add, by8_len, List.length_cons, List.length_nil]
  rw [List.drop_append_of_le_length (by simp [by8_len, zer_len]), List.drop_of_length_le (by simp [by8_len, zer_len]), List.nil_append]
theorem blk_get4 (m : Nat) : (by8 ([83, 84, 82, 65] ++ zer (m + 2))).toArray[4]? = some (.int .u8 0) := by simp [by8, zer, List.replicate_succ]
theorem blk_get5 (m : Nat) : (by8 ([83, 84, 82, 65] ++ zer (m + 2))).toArray[5]? = some (.int .u8 0) := by simp [by8, zer, List.replicate_succ]

set_option maxRecDepth 100000 in
set_option maxHeartbeats 4000000 in
theorem encode_good (kind place block lg lo lc : Nat) (l : List R4) (w : World) (hk : 1 ≤ kind ∧ kind ≤ 255) (hp : place < 9223372036854775808) (hb : 64 ≤ block ∧ block ≤ 65536 ∧ block % 32 = 0) (hl : 1 ≤ l.length) (hf : 32 * l.length + 32 ≤ block)
    (hc : ∀ (j : Nat) (u : Value), (rcCells l)[j]? = some u → w.cell? ⟨lg, lo + j, none⟩ = some u) (hr : ∀ r ∈ l, r.Ok) (hh : HalvesAt w) (hm : MagicAt w) :
    Calls Tryz.prog 236 #[.int .i64 kind, .int .i64 place, .slice (some ⟨lg, lo, none⟩) l.length lc, .int .i64 block] w fun e w' =>
      ∃ g, e = .returned (.tuple #[.slice (some ⟨g, 0, none⟩) block block, .int .i64 0]) ∧ w.heap.size ≤ g ∧ Blk w' g 5 (by8 (encB kind place l block)).toArray ∧ Keep Nil w w' := by
  have HC := Hid.intro_ hc
  have HR := Hid.intro_ hr
  have HH := Hid.intro_ hh
  have HM := Hid.intro_ hm
  have hfit : fit block = ((block / 32 - 1 : Nat) : Int) := by
    unfold fit
    rw [if_neg (by omega)]; omega
  have hft := fun w => fit_any block w
  rw [hfit] at hft
  have hfz : ¬ ((block / 32 - 1 : Nat) : Int) = 0 := by omega
  have hfl : ¬ ((block / 32 - 1 : Nat) : Int) < (l.length : Int) := by omega
  have hq0 : (((block / 32 - 1 : Nat) : Int) == 0) = false := by rw [beq_eq_false_iff_ne]; omega
  have hl16 : l.length ≤ 2048 := by omega
  generalize block / 32 - 1 = fb at *
  have hlz : ¬ ((l.length : Int) = 0) := by omega
  have hlq : ((l.length : Int) == 0) = false := by rw [beq_eq_false_iff_ne]; omega
  clear hc hr hh hm hfit
  obtain ⟨i0, hi0, hz0, hz1, hz2⟩ := info_parts info_u8
  have hcs3 := Hid.intro_ (show ∀ v ∈ by8 [83, 84, 82, 65], v.oneCell' = true by
    intro v hv
    obtain ⟨x, _, rfl⟩ := List.mem_map.1 hv
    rfl)
  have hmn := Hid.intro_ (show (by8 [83, 84, 82, 65]).length = Nat.min 4 block by rw [by8_len]; show 4 = min 4 block; omega)
  have hfit4 := Hid.intro_ (show 0 + (by8 [83, 84, 82, 65]).length ≤ (by8 (zer block)).length by rw [by8_len, by8_len, zer_len]; show 0 + 4 ≤ block; omega)
  go_enter Tryz.func236, Tryz.ntmps236
  go_wp2_with (first
    | (go_at_call 122; refine (hft _).mono ?_; rintro e w' ⟨rfl, hw⟩; obtain rfl := hw.symm)
    | (at_make; refine wpList_make_full _ rfl _ _ 161 rfl w.heap.size 5 i0 (.int .u8 0) 1 Tryz.underlying161 hi0 hz0 hz1 .i64 .i64 _ _ block rfl rfl rfl rfl (by rw [hz2]; omega) (by unfold maxLen; omega) (Nat.le_refl _) ?_
       intro w1 hown1 hgr1
       have k1 := Keep.of_grown_none hgr1
       have hb1 : w1.heap[w.heap.size]? = some (.cells (by8 (zer block)).toArray 5 (0, 0)) := by
         rcases hown1.2 with ⟨hv, _⟩ | ⟨g, cap, cur, hv, _, hh, hle, hm, hs, ht⟩
         · simp at hv
         · injection hv with ha hnn hcap
           injection ha with ha
           injection ha with ha _ _
           subst ha
           subst hcap
           rw [hh]
           have : cur = (by8 (zer block)).toArray := by
             rw [show by8 (zer block) = List.replicate block (Value.int .u8 0) by simp [by8, zer]]
             apply Array.toList_inj.1
             rw [← toList_madeCells_one, ← show (madeCells (Value.int .u8 0).cells (block * 1)) = madeCells #[Value.int .u8 0] block by simp [Value.cells], ← ht, List.take_of_length_le (by simp [hs])]
           rw [this]
       have HB1 := Hid.intro_ hb1
       have hmag := Hid.intro_ (magic_src (HM.out.keep k1 (fun h => h)))
       clear hown1 hb1 hgr1)
    | (refine wpList_copy_splice rfl (.tmp 42) (.tmp 43) 161 161 rfl 5 Tryz.underlying161 (by simp [hi0, hz1]) (some ⟨w.heap.size, 0, none⟩) (some ⟨9, 0, none⟩) block block 4 4 (by simp [Act.eval]) (by simp [Act.eval]) w.heap.size 0 (by8 (zer block)) 5 HB1.out (by8 [83, 84, 82, 65]) hmn.out (fun _ => ⟨rfl, _, rfl, hmag.out⟩) hfit4.out hcs3.out w.heap.size w1 (Below.refl _ _) (Nat.le_refl _) ?_
       intro w2 hg2 hb2
       have k2 : Keep Nil w w2 := k1.trans (Keep.of_below hb2 (F := fun b => w.heap.size ≤ b) (fun b h _ => h)) (fun b hb h => absurd h (by omega))
       have HB2 := Hid.intro_ (blk_magic (m := block - 6) (by omega) hg2.out)
       have d4 := (Blk.at_ HB2.out 4).trans (blk_get4 _)
       have d5 := (Blk.at_ HB2.out 5).trans (blk_get5 _)
       have e4 := Blk.fr HB2.out 4
       have e5 := Blk.fr HB2.out 5
       clear hg2 hb2))
  have hb3 : Blk ((w2.setCell ⟨w.heap.size, 4, none⟩ (.int .u8 1)).setCell ⟨w.heap.size, 5, none⟩ (.int .u8 kind)) w.heap.size 5 (by8 ([83, 84, 82, 65, 1, (kind : Int)] ++ zer (block - 6))).toArray := blk_two HB2.out rfl
  have k3 : Keep Nil w ((w2.setCell ⟨w.heap.size, 4, none⟩ (.int .u8 1)).setCell ⟨w.heap.size, 5, none⟩ (.int .u8 kind)) := (k2.setCell (p := ⟨w.heap.size, 4, none⟩) (fun h => absurd h (by simp)) _).setCell (p := ⟨w.heap.size, 5, none⟩) (fun h => absurd h (by simp)) _
  clear d4 d5 e4 e5
  refine (put_z w.heap.size 6 _ _ l.length 2 (block - 6) _ 2 _ hb3 rfl rfl (by omega) (by omega) (by omega) (by omega)).mono ?_
  rintro e w4 ⟨rfl, HB4, k4⟩
  have k5 : Keep Nil w w4 := k3.trans k4 (fun b hb e => absurd hb (by rw [show b = w.heap.size from e]; simp))
  clear hb3 k3 k4
  go_wp2_with fail
  refine (put_z w.heap.size 8 _ _ place 8 (block - 6 - 2) _ 8 _ HB4.out (by simp [loB_len]) rfl (by omega) (by omega) (by omega) (by omega)).mono ?_
  rintro e w5 ⟨rfl, HB5, k6⟩
  have k7 : Keep Nil w w5 := k5.trans k6 (fun b hb e => absurd hb (by rw [show b = w.heap.size from e]; simp))
  obtain ⟨hd, hhd⟩ : ∃ hd, hd = [83, 84, 82, 65, 1, (kind : Int)] ++ loB l.length 2 ++ loB place 8 ++ loB 0 12 := ⟨_, rfl⟩
  have hdl : hd.length = 28 := by rw [hhd]; simp [loB_len]
  have HB6 : Hid (Blk w5 w.heap.size 5 (by8 (hd ++ rcBytes (l.take 0) ++ zer (block - 28))).toArray) := by
    have := HB5.out
    rw [show block - 6 - 2 - 8 = 12 + (block - 28) from by omega, zer_add, ← zer_lo 12, ← List.append_assoc, ← hhd] at this
    exact Hid.intro_ (by simpa [rcBytes] using this)
  have HHD := Hid.intro_ hhd
  clear HB4 HB5 k5 k6 hhd
  go_wp2_with fail
  go_loopw [64] (fun i wr => ∃ k : Nat, k ≤ l.length ∧ i = .int .i64 k ∧ Hid (Blk wr w.heap.size 5 (by8 (hd ++ rcBytes (l.take k) ++ zer (block - 28 - 32 * k))).toArray) ∧ Keep Nil w wr) (fun i _ => l.length - (intOf i).toNat)
  case atStart => exact ⟨0, Nat.zero_le _, rfl, HB6, k7⟩
  case round =>
    obtain ⟨k, hk', rfl, HW, hkw⟩ := hrel
    by_cases hlt : k < l.length
    · obtain ⟨q, hq⟩ : ∃ q, l[k]? = some q := ⟨_, List.getElem?_eq_getElem hlt⟩
      have hqo := HR.out q (List.mem_of_getElem? hq)
      have HQ := Hid.intro_ hq
      have cw : ∀ j, j < 4 → wr.cell? ⟨lg, lo + k * 4 + j, none⟩ = some (.int .u64 ((q.ws.getD j 0 : Nat) : Int)) := fun j hj => by
        have := HC.out (k * 4 + j) _ (rc_at l k j q hq hj)
        rw [← Nat.add_assoc] at this
        exact cell_keep this hkw (fun h => h)
      have cw0 : wr.cell? ⟨lg, lo + k * 4, none⟩ = some (.int .u64 (q.a : Int)) := cw 0 (by decide)
      have cw1 : wr.cell? ⟨lg, lo + k * 4 + 1, none⟩ = some (.int .u64 (q.b : Int)) := cw 1 (by decide)
      have cw2 : wr.cell? ⟨lg, lo + k * 4 + 2, none⟩ = some (.int .u64 (q.c : Int)) := cw 2 (by decide)
      have cw3 : wr.cell? ⟨lg, lo + k * 4 + 3, none⟩ = some (.int .u64 (q.d : Int)) := cw 3 (by decide)
      have hlw := cell_lt cw0
      have hgz := hkw.size
      have hgl := HW.out.lt
      have hix : ∀ (j : Nat), j < 4 → Hid (∀ w, (Instr.index 111 (.agg #[.int .u64 q.a, .int .u64 q.b, .int .u64 q.c, .int .u64 q.d]) (.int .i64 j)).run Tryz.prog w = .ok (.int .u64 ((q.ws.getD j 0 : Nat) : Int)) w) := fun j hj w => index_rec q j hj w
      have HIX := Hid.intro_ hix
      clear hq cw hix
      go_wp2
      go_loopw [70] (fun i wi => ∃ j : Nat, j ≤ 4 ∧ i = .int .i64 j ∧ Hid (Blk wi w.heap.size 5 (by8 (hd ++ rcBytes (l.take k) ++ (q.ws.take j).flatMap (fun x => loB x 8) ++ zer (block - 28 - 32 * k - 8 * j))).toArray) ∧ Keep Nil w wi) (fun i _ => 4 - (intOf i).toNat)
      case atStart => exact ⟨0, by omega, rfl, Hid.intro_ (by simpa using HW.out.alloc _), hkw.alloc _⟩
      case round =>
        obtain ⟨j, hj, rfl, HW2, hkw2⟩ := hrel
        by_cases hj4 : j < 4
        · have hx := ws_lt hqo j
          have htk := Hid.intro_ (ws_take q j hj4)
          have hi1 := (HIX.out j hj4).out
          generalize q.ws.getD j 0 = x at *
          have hlen : (hd ++ rcBytes (l.take k) ++ (q.ws.take j).flatMap (fun x => loB x 8)).length = 28 + 32 * k + 8 * j := by
            rw [List.length_append, List.length_append, hdl, rcBytes_len, flat8_len, List.length_take, List.length_take]
            simp only [R4.ws, List.length_cons, List.length_nil]
            omega
          have HLen := Hid.intro_ hlen
          clear hlen
          go_wp2_with fail
          refine (put_z w.heap.size (28 + 32 * k + 8 * j) _ _ x 8 (block - 28 - 32 * k - 8 * j) _ 8 _ HW2.out HLen.out rfl (by omega) (by omega) (by omega) hx).mono ?_
          rintro e w4 ⟨rfl, HB4, k4⟩
          have k5 : Keep Nil w w4 := hkw2.trans k4 (fun b hb e => absurd hb (by rw [show b = w.heap.size from e]; simp))
          have HB5 : Hid (Blk w4 w.heap.size 5 (by8 (hd ++ rcBytes (l.take k) ++ (q.ws.take (j + 1)).flatMap (fun x => loB x 8) ++ zer (block - 28 - 32 * k - 8 * (j + 1)))).toArray) := by
            have h := HB4.out
            rw [show block - 28 - 32 * k - 8 * j - 8 = block - 28 - 32 * k - 8 * (j + 1) from by omega] at h
            rw [htk.out, List.flatMap_append]
            exact Hid.intro_ (by simpa using h)
          clear HB4 k4 hi1
          go_wp2
          go_roundw
          case rel => exact ⟨j + 1, by omega, by go_num, HB5, k5⟩
          case measure => simp [intOf]; omega
        · obtain rfl : j = 4 := by omega
          have HW3 : Hid (Blk wr w.heap.size 5 (by8 (hd ++ rcBytes (l.take (k + 1)) ++ zer (block - 28 - 32 * (k + 1)))).toArray) := by
            have h := HW2.out
            have e1 : l.take (k + 1) = l.take k ++ [q] := by rw [List.take_add_one, HQ.out]; rfl
            have e2 : (q.ws.take 4).flatMap (fun x => loB x 8) = q.bytes := by simp [R4.ws, R4.bytes]
            rw [e2, show block - 28 - 32 * k - 8 * 4 = block - 28 - 32 * (k + 1) from by omega] at h
            rw [e1]
            exact Hid.intro_ (by simpa [rcBytes] using h)
          go_wp2
          go_roundw
          case rel => exact ⟨k + 1, by omega, by go_num, HW3, hkw2⟩
          case measure => simp [intOf]; omega
    · obtain rfl : k = l.length := by omega
      have hL := HW.out
      rw [List.take_length, show block - 28 - 32 * l.length = (block - 32 - 32 * l.length) + 4 from by omega, zer_add, ← List.append_assoc, ← zer_lo (block - 32 - 32 * l.length)] at hL
      have hbody : hd ++ rcBytes l ++ loB 0 (block - 32 - 32 * l.length) = encBody kind place l block := by rw [HHD.out]; rfl
      rw [hbody] at hL
      have hbl : (encBody (kind : Int) place l block).length = block - 4 := encBody_len hf
      have hbr := encBody_range (place := place) (block := block) (l := l) (kind := (kind : Int)) (by omega)
      generalize hB : encBody (kind : Int) place l block = body at *
      have hcr : crc (natB body) < 4294967296 := by unfold crc; omega
      have hsum := sum_any w.heap.size 0 block (natB body) wr.drew (fun j c hj => by
        have h2 := natB_cell hbr hj
        have := hL.drew.at_ j
        rw [Nat.zero_add, this, List.getElem?_toArray, by8_app, List.getElem?_append_left (List.getElem?_eq_some_iff.1 h2.1).1]
        exact h2.1) (fun c hc => by obtain ⟨j, hj⟩ := List.mem_iff_getElem?.1 hc; exact (natB_cell hbr hj).2) (by simp [natB, hbl]; omega) (HH.out.keep hkw.drew (fun h => h))
      rw [show (natB body).length = block - 4 by simp [natB, hbl]] at hsum
      have hput := put_z w.heap.size (block - 4) 4 4 (crc (natB body)) 4 4 body 4 wr.drew (hL.drew) hbl rfl (by omega) (by omega) (by omega) (by omega)
      have HS := Hid.intro_ hsum
      have HP := Hid.intro_ hput
      have HB := Hid.intro_ hB
      clear hL hbody hbl hbr hB hsum hput
      go_wp2
      have m4 : IntKind.i64.wrap ((block : Int) - 4) = (block : Int) - 4 := IntWalk.i64_in _ (by omega)
      have m5 : 0 ≤ (block : Int) - 4 := by omega
      have m6 : (block : Int) - 4 ≤ block := by omega
      have m8 : ¬ block = block - 4 := by omega
      have m10 : 4 ≤ (block : Int) := by omega
      have m9 : block - (block - 4) = 4 := by omega
      have m7 : ((block : Int) - 4).toNat = block - 4 := by omega
      go_still_tail 10, (by kernel_rfl)
      still_call HS.out
      repeat still_step
      refine wpStill_nil ?_
      change wpList _ _ _ _ _ wr.drew
      clear m4 m5 m6 m7 m8 m9 m10
      go_wp2_with fail
      refine HP.out.mono ?_
      rintro e w6 ⟨rfl, HB6, k8⟩
      have k9 : Keep Nil w w6 := hkw.drew.trans k8 (fun b hb e => absurd hb (by rw [show b = w.heap.size from e]; simp))
      have hfin : Hid (Blk w6 w.heap.size 5 (by8 (encB kind place l block)).toArray) := by
        have h := HB6.out
        unfold encB
        rw [HB.out]
        exact Hid.intro_ (by simpa [zer] using h)
      clear HB6 k8 HS HP
      go_wp2
      go_ret2
      exact ⟨w.heap.size, rfl, Nat.le_refl _, hfin.out, k9⟩
end Go.Proofs.YtadipinnbehhhaaGreatDoor
