/- Parts of the proof: EndN. -/
import Derived.Test.YtadipinnbehhhaaGreatDoorCubesRowAH
namespace Go.Proofs.YtadipinnbehhhaaGreatDoor
open Go.RowKit
theorem get9 : (∀ (l : List Oper) (i : Nat), l.toArray[i]? = l[i]?) ∧ (∀ (a : Oper) (l : List Oper) (i : Nat), (a :: l)[i + 1]? = l[i]?) ∧ ∀ (a : Oper) (l : List Oper), (a :: l)[0]? = some a := ⟨fun _ _ => by simp, fun _ _ _ => by simp, fun _ _ => by simp⟩
theorem put9 : (∀ (l : List Value) (i : Nat) (x : Value), l.toArray.setIfInBounds i x = (l.set i x).toArray) ∧ (∀ (a x : Value) (l : List Value), (a :: l).set 0 x = x :: l) ∧ ∀ (a x : Value) (l : List Value) (i : Nat), (a :: l).set (i + 1) x = a :: l.set i x := ⟨fun _ _ _ => by simp, fun _ _ _ => by simp, fun _ _ _ _ => by simp⟩
theorem tk9 {P : Program} {md : Region.Mode} {ops : Array Oper} {Q : Exit → Act → World → Prop} {S : World → Prop} {i : Nat} {oi : Oper} {v : Value} {fuel : Nat} {listed : Array Bool} {a : Act} {w : World} (hi : ops[i]? = some oi) (hy : YieldsIf P ops S oi v a)
    (h : wpAnyH P md ops Q S fuel (listed.setIfInBounds i true) (a.put oi.dst v) w) (hs : Region.noSelect ops = true := by kernel_rfl) (hf : Region.free md ops listed i = true := by kernel_rfl) (hr : (Region.ready md ops listed).contains i = true := by kernel_rfl)
    (hQ : ∀ c a w, Q (.panic c) (a.put oi.dst v) w → Q (.panic c) a w := by intro _ _ _ h; exact h) (hS : S w := by assumption) : wpAnyH P md ops Q S (fuel + 1) listed a w := wpAnyH_take hi hs hf hr hQ hy hS h
theorem tk8 {P : Program} {md : Region.Mode} {ops : Array Oper} {Q : Exit → Act → World → Prop} {S : World → Prop} {i : Nat} {oi : Oper} {v : Value} {fuel : Nat} {listed : Array Bool} {a : Act} {w : World} (hy : YieldsIf P ops S oi v a)
    (h : wpAnyH P md ops Q S fuel (listed.setIfInBounds i true) (a.put oi.dst v) w) (hi : ops[i]? = some oi := by simp only [get9]; rfl) (hs : Region.noSelect ops = true := by kernel_rfl) (hf : Region.free md ops listed i = true := by kernel_rfl) (hr : (Region.ready md ops listed).contains i = true := by kernel_rfl)
    (hQ : ∀ c a w, Q (.panic c) (a.put oi.dst v) w → Q (.panic c) a w := by intro _ _ _ h; exact h) (hS : S w := by assumption) : wpAnyH P md ops Q S (fuel + 1) listed a w := wpAnyH_take hi hs hf hr hQ hy hS h

def inV (v r n : Nat) : Value := .agg #[.int .i64 v, .int .u64 r, .int .i64 n]
def isE (a b c d : Nat) : Bool := decide (a = 18446744073709551615) && decide (b ≤ 65536) && decide (d < 9223372036854775808) && (if sF c then decide (d = 0) else nOk c b && decide (sI c = 0) && decide (0 < d))
theorem info_end {w Y : World} {a b c d : Nat} (hY : Y = ((w.alloc (.cells #[.int .u64 a, .int .u64 b, .int .u64 c, .int .u64 d] 111)).alloc (.cells #[.int .i64 0, .int .u64 0, .int .i64 0] 72)).alloc (.cells #[.int .i64 b, .int .u64 c, .int .i64 d] 72)) :
    Keep Nil w Y ∧ Blk Y (w.heap.size + 1) 72 #[.int .i64 0, .int .u64 0, .int .i64 0] := by
  rw [hY]
  exact ⟨(((Keep.refl Nil w).alloc _).alloc _).alloc _, (Blk.new_at _ _ _ (by simp)).alloc _⟩
theorem info_keep {w Y : World} (h : Keep Nil w Y) (u v x : Value) : Keep Nil w (((Y.setCell ⟨w.heap.size + 1, 0, none⟩ u).setCell ⟨w.heap.size + 1, 1, none⟩ v).setCell ⟨w.heap.size + 1, 2, none⟩ x).drew :=
  h.trans ((((Keep.refl (fun z => z = w.heap.size + 1) Y).setCell (p := ⟨w.heap.size + 1, 0, none⟩) (fun _ => rfl) _).setCell (p := ⟨w.heap.size + 1, 1, none⟩) (fun _ => rfl) _).setCell (p := ⟨w.heap.size + 1, 2, none⟩) (fun _ => rfl) _).drew (fun z hz e => by have e : z = w.heap.size + 1 := e; omega)
theorem info_cells {w Y : World} {a b c d : Nat} (hY : Y = ((w.alloc (.cells #[.int .u64 a, .int .u64 b, .int .u64 c, .int .u64 d] 111)).alloc (.cells #[.int .i64 0, .int .u64 0, .int .i64 0] 72)).alloc (.cells #[.int .i64 b, .int .u64 c, .int .i64 d] 72)) :
    Y.cell? ⟨w.heap.size + 1 + 1, 0, none⟩ = some (.int .i64 b) ∧ Y.cell? ⟨w.heap.size + 1 + 1, 1, none⟩ = some (.int .u64 c) ∧ Y.cell? ⟨w.heap.size + 1 + 1, 2, none⟩ = some (.int .i64 d) ∧
      Y.frozen? ⟨w.heap.size + 1, 0, none⟩ = false ∧ Y.frozen? ⟨w.heap.size + 1, 1, none⟩ = false ∧ Y.frozen? ⟨w.heap.size + 1, 2, none⟩ = false ∧
      Y.cell? ⟨w.heap.size + 1, 0, none⟩ = some (.int .i64 0) ∧ Y.cell? ⟨w.heap.size + 1, 1, none⟩ = some (.int .u64 0) ∧ Y.cell? ⟨w.heap.size + 1, 2, none⟩ = some (.int .i64 0) := by
  have h2 := (info_end hY).2
  have h4 : Blk Y (w.heap.size + 1 + 1) 72 #[.int .i64 b, .int .u64 c, .int .i64 d] := by rw [hY]; exact Blk.new_at _ _ _ (by simp)
  exact ⟨h4.at_ 0, h4.at_ 1, h4.at_ 2, h2.fr 0, h2.fr 1, h2.fr 2, h2.at_ 0, h2.at_ 1, h2.at_ 2⟩
set_option maxRecDepth 100000 in
set_option maxHeartbeats 16000000 in
theorem endof_any (a b c d : Nat) (_ha : a < 18446744073709551616) (hb : b < 18446744073709551616) (hc : c < 18446744073709551616) (hd : d < 18446744073709551616) (w : World) :
    Calls Tryz.prog 79 #[rcV a b c d] w fun e w' => ∃ x y z : Nat, e = .returned (.tuple #[inV x y z, .bool (isE a b c d)]) ∧ (isE a b c d = true → x = b ∧ y = c ∧ z = d) ∧ Keep Nil w w' := by
  have hs := Hid.intro_ (split_t c hc)
  unfold rcV
  by_cases h1 : a = 18446744073709551615
  · have q1 : ((a : Int) != 18446744073709551615) = false := by simp; omega
    by_cases h2 : b ≤ 65536
    · have q2 : ¬ ((65536 : Int) < (b : Int)) := by omega
      by_cases h3 : d < 9223372036854775808
      · have q3 : ¬ ((9223372036854775808 : Int) ≤ (d : Int)) := by omega
        have w1 : IntKind.i64.wrap (b : Int) = b := IntWalk.i64_in _ (by omega)
        have w2 : IntKind.i64.wrap (d : Int) = d := IntWalk.i64_in _ (by omega)
        cases hf : sF c
        · rw [hf] at hs
          cases hk : sK c
          · rw [hk] at hs
            have HX := Hid.intro_ (show isE a b c d = false by simp [isE, nOk, hf, hk])
            generalize isE a b c d = X at *
            clear h1 h2 h3 hf hk _ha hb hc hd
            obtain ⟨Y, hY⟩ : ∃ Y, Y = ((w.alloc (.cells #[.int .u64 a, .int .u64 b, .int .u64 c, .int .u64 d] 111)).alloc (.cells #[.int .i64 0, .int .u64 0, .int .i64 0] 72)).alloc (.cells #[.int .i64 b, .int .u64 c, .int .i64 d] 72) := ⟨_, rfl⟩
            have HK := Hid.intro_ (info_end hY)
            obtain ⟨y0, y1, y2, g0, g1, g2, z0, z1, z2⟩ := info_cells hY
            go_enter Tryz.func79, Tryz.ntmps79
            go_wp2_with (go_at_call 100; refine (hs.out _).mono ?_; rintro e w' ⟨rfl, rfl⟩)
            rw [← hY]
            clear hY
            refine wp_region_held_drew (S := (fun w' => w'.cell? ⟨w.heap.size + 1 + 1, 0, none⟩ = some (.int .i64 b) ∧ w'.cell? ⟨w.heap.size + 1 + 1, 1, none⟩ = some (.int .u64 c) ∧ w'.cell? ⟨w.heap.size + 1 + 1, 2, none⟩ = some (.int .i64 d))) (by kernel_rfl) ?_ (fun hHeld => ?_)
            · exact ⟨y0, y1, y2⟩
            first
              | (refine tk9 (i := 0) (v := ?_) (by simp only [get9]; rfl) (Or.inl ⟨by rfl, ?_⟩) ?_; rotate_left; (intro w k; (try dsimp only at k); go_simp; try with_reducible rfl); try simp only [Act.put, put9])
              | (refine tk9 (i := 0) (by simp only [get9]; rfl) (Or.inr ⟨by rfl, rfl⟩) ?_; try simp only [Act.put, put9])
              | fail
            first
              | (refine tk9 (i := 1) (v := ?_) (by simp only [get9]; rfl) (Or.inl ⟨by rfl, ?_⟩) ?_; rotate_left; (intro w k; (try dsimp only at k); go_simp; try with_reducible rfl); try simp only [Act.put, put9])
              | (refine tk9 (i := 1) (by simp only [get9]; rfl) (Or.inr ⟨by rfl, rfl⟩) ?_; try simp only [Act.put, put9])
              | fail
            first
              | (refine tk9 (i := 2) (v := ?_) (by simp only [get9]; rfl) (Or.inl ⟨by rfl, ?_⟩) ?_; rotate_left; (intro w k; (try dsimp only at k); go_simp; try with_reducible rfl); try simp only [Act.put, put9])
              | (refine tk9 (i := 2) (by simp only [get9]; rfl) (Or.inr ⟨by rfl, rfl⟩) ?_; try simp only [Act.put, put9])
              | fail
            first
              | (refine tk9 (i := 3) (v := ?_) (by simp only [get9]; rfl) (Or.inl ⟨by rfl, ?_⟩) ?_; rotate_left; (intro w k; (try dsimp only at k); go_simp; try with_reducible rfl); try simp only [Act.put, put9])
              | (refine tk9 (i := 3) (by simp only [get9]; rfl) (Or.inr ⟨by rfl, rfl⟩) ?_; try simp only [Act.put, put9])
              | fail
            first
              | (refine tk9 (i := 4) (v := ?_) (by simp only [get9]; rfl) (Or.inl ⟨by rfl, ?_⟩) ?_; rotate_left; (intro w k; (try dsimp only at k); go_simp; try with_reducible rfl); try simp only [Act.put, put9])
              | (refine tk9 (i := 4) (by simp only [get9]; rfl) (Or.inr ⟨by rfl, rfl⟩) ?_; try simp only [Act.put, put9])
              | fail
            first
              | (refine tk9 (i := 5) (v := ?_) (by simp only [get9]; rfl) (Or.inl ⟨by rfl, ?_⟩) ?_; rotate_left; (intro w k; (try dsimp only at k); go_simp; try with_reducible rfl); try simp only [Act.put, put9])
              | (refine tk9 (i := 5) (by simp only [get9]; rfl) (Or.inr ⟨by rfl, rfl⟩) ?_; try simp only [Act.put, put9])
              | fail
            first
              | (refine tk9 (i := 6) (v := ?_) (by simp only [get9]; rfl) (Or.inl ⟨by rfl, ?_⟩) ?_; rotate_left; (intro w k; (try dsimp only at k); go_simp; try with_reducible rfl); try simp only [Act.put, put9])
              | (refine tk9 (i := 6) (by simp only [get9]; rfl) (Or.inr ⟨by rfl, rfl⟩) ?_; try simp only [Act.put, put9])
              | fail
            first
              | (refine tk9 (i := 7) (v := ?_) (by simp only [get9]; rfl) (Or.inl ⟨by rfl, ?_⟩) ?_; rotate_left; (intro w k; (try dsimp only at k); go_simp; try with_reducible rfl); try simp only [Act.put, put9])
              | (refine tk9 (i := 7) (by simp only [get9]; rfl) (Or.inr ⟨by rfl, rfl⟩) ?_; try simp only [Act.put, put9])
              | fail
            first
              | (refine tk9 (i := 8) (v := ?_) (by simp only [get9]; rfl) (Or.inl ⟨by rfl, ?_⟩) ?_; rotate_left; (intro w k; (try dsimp only at k); go_simp; try with_reducible rfl); try simp only [Act.put, put9])
              | (refine tk9 (i := 8) (by simp only [get9]; rfl) (Or.inr ⟨by rfl, rfl⟩) ?_; try simp only [Act.put, put9])
              | fail
            first
              | (refine tk9 (i := 9) (v := ?_) (by simp only [get9]; rfl) (Or.inl ⟨by rfl, ?_⟩) ?_; rotate_left; (intro w k; (try dsimp only at k); go_simp; try with_reducible rfl); try simp only [Act.put, put9])
              | (refine tk9 (i := 9) (by simp only [get9]; rfl) (Or.inr ⟨by rfl, rfl⟩) ?_; try simp only [Act.put, put9])
              | fail
            first
              | (refine tk9 (i := 10) (v := ?_) (by simp only [get9]; rfl) (Or.inl ⟨by rfl, ?_⟩) ?_; rotate_left; (intro w k; (try dsimp only at k); go_simp; try with_reducible rfl); try simp only [Act.put, put9])
              | (refine tk9 (i := 10) (by simp only [get9]; rfl) (Or.inr ⟨by rfl, rfl⟩) ?_; try simp only [Act.put, put9])
              | fail
            first
              | (refine tk9 (i := 11) (v := ?_) (by simp only [get9]; rfl) (Or.inl ⟨by rfl, ?_⟩) ?_; rotate_left; (intro w k; (try dsimp only at k); go_simp; try with_reducible rfl); try simp only [Act.put, put9])
              | (refine tk9 (i := 11) (by simp only [get9]; rfl) (Or.inr ⟨by rfl, rfl⟩) ?_; try simp only [Act.put, put9])
              | fail
            first
              | (refine tk9 (i := 12) (v := ?_) (by simp only [get9]; rfl) (Or.inl ⟨by rfl, ?_⟩) ?_; rotate_left; (intro w k; (try dsimp only at k); go_simp; try with_reducible rfl); try simp only [Act.put, put9])
              | (refine tk9 (i := 12) (by simp only [get9]; rfl) (Or.inr ⟨by rfl, rfl⟩) ?_; try simp only [Act.put, put9])
              | fail
            first
              | (refine tk9 (i := 13) (v := ?_) (by simp only [get9]; rfl) (Or.inl ⟨by rfl, ?_⟩) ?_; rotate_left; (intro w k; (try dsimp only at k); go_simp; try with_reducible rfl); try simp only [Act.put, put9])
              | (refine tk9 (i := 13) (by simp only [get9]; rfl) (Or.inr ⟨by rfl, rfl⟩) ?_; try simp only [Act.put, put9])
              | fail
            first
              | (refine tk9 (i := 14) (v := ?_) (by simp only [get9]; rfl) (Or.inl ⟨by rfl, ?_⟩) ?_; rotate_left; (intro w k; (try dsimp only at k); go_simp; try with_reducible rfl); try simp only [Act.put, put9])
              | (refine tk9 (i := 14) (by simp only [get9]; rfl) (Or.inr ⟨by rfl, rfl⟩) ?_; try simp only [Act.put, put9])
              | fail
            first
              | (refine tk9 (i := 15) (v := ?_) (by simp only [get9]; rfl) (Or.inl ⟨by rfl, ?_⟩) ?_; rotate_left; (intro w k; (try dsimp only at k); go_simp; try with_reducible rfl); try simp only [Act.put, put9])
              | (refine tk9 (i := 15) (by simp only [get9]; rfl) (Or.inr ⟨by rfl, rfl⟩) ?_; try simp only [Act.put, put9])
              | fail
            first
              | (refine tk9 (i := 16) (v := ?_) (by simp only [get9]; rfl) (Or.inl ⟨by rfl, ?_⟩) ?_; rotate_left; (intro w k; (try dsimp only at k); go_simp; try with_reducible rfl); try simp only [Act.put, put9])
              | (refine tk9 (i := 16) (by simp only [get9]; rfl) (Or.inr ⟨by rfl, rfl⟩) ?_; try simp only [Act.put, put9])
              | fail
            refine wpAnyH_ready (rs := [17]) (by kernel_rfl) (by simp) ?_
            refine AllReadyH.cons (by simp only [get9]; rfl) (fun K hK => ?_) AllReadyH.nil
            go_simp
            refine hK.out _ _ ?_ (fun hHeld => ?_)
            · go_keep
            clear hK K
            (try simp only [Act.put, put9]); refine tk9 (i := 18) (v := ?_) (by simp only [get9]; rfl) (Or.inl ⟨by rfl, ?_⟩) ?_; rotate_left; (intro w k; (try dsimp only at k); go_simp; try with_reducible rfl); try simp only [Act.put, put9]
            refine wpAnyH_done (by kernel_rfl) ?_ _
            all_goals
              go_wp2_with fail
              refine bodyPost_ret (v := .tuple #[.agg #[.int .i64 b, .int .u64 c, .int .i64 d], .bool false]) (by simp [results, Tryz.results79, go_sem, z0, z1, z2]; try omega) rfl ⟨b, c, d, by rw [HX.out]; rfl, (fun _ => ⟨rfl, rfl, rfl⟩), info_keep HK.out.1 _ _ _⟩
          rw [hk] at hs
          by_cases h4 : sL c < (b : Int)
          · by_cases h5 : sI c = 0
            · have q5 : (sI c == 0) = true := by simpa using h5
              by_cases h6 : 0 < d
              · have q6 : (0 : Int) < (d : Int) := by omega
                have HX := Hid.intro_ (show isE a b c d = true by simp [isE, nOk, hf, hk, h1, h2, h3, h4, h5]; omega)
                generalize isE a b c d = X at *
                clear h1 h2 h3 hf hk _ha hb hc hd h5 h6
                obtain ⟨Y, hY⟩ : ∃ Y, Y = ((w.alloc (.cells #[.int .u64 a, .int .u64 b, .int .u64 c, .int .u64 d] 111)).alloc (.cells #[.int .i64 0, .int .u64 0, .int .i64 0] 72)).alloc (.cells #[.int .i64 b, .int .u64 c, .int .i64 d] 72) := ⟨_, rfl⟩
                have HK := Hid.intro_ (info_end hY)
                obtain ⟨y0, y1, y2, g0, g1, g2, z0, z1, z2⟩ := info_cells hY
                go_enter Tryz.func79, Tryz.ntmps79
                go_wp2_with (go_at_call 100; refine (hs.out _).mono ?_; rintro e w' ⟨rfl, rfl⟩)
                rw [← hY]
                clear hY
                (first | (go_region_held3 (fun w' => w'.cell? ⟨w.heap.size + 1 + 1, 0, none⟩ = some (.int .i64 b) ∧ w'.cell? ⟨w.heap.size + 1 + 1, 1, none⟩ = some (.int .u64 c) ∧ w'.cell? ⟨w.heap.size + 1 + 1, 2, none⟩ = some (.int .i64 d)) (first | exact ⟨y0, y1, y2⟩ | go_keep) ((first | fail))) | fail)
                all_goals
                  go_wp2_with fail
                  refine bodyPost_ret (v := .tuple #[.agg #[.int .i64 b, .int .u64 c, .int .i64 d], .bool true]) (by simp [results, Tryz.results79, go_sem, z0, z1, z2]; try omega) rfl ⟨b, c, d, by rw [HX.out]; rfl, (fun _ => ⟨rfl, rfl, rfl⟩), info_keep HK.out.1 _ _ _⟩
              · obtain rfl : d = 0 := by omega
                have HX := Hid.intro_ (show isE a b c 0 = false by simp [isE, hf])
                generalize isE a b c 0 = X at *
                clear h1 h2 h3 hf hk _ha hb hc hd h5 h6
                obtain ⟨Y, hY⟩ : ∃ Y, Y = ((w.alloc (.cells #[.int .u64 a, .int .u64 b, .int .u64 c, .int .u64 0] 111)).alloc (.cells #[.int .i64 0, .int .u64 0, .int .i64 0] 72)).alloc (.cells #[.int .i64 b, .int .u64 c, .int .i64 0] 72) := ⟨_, rfl⟩
                have HK := Hid.intro_ (info_end hY)
                obtain ⟨y0, y1, y2, g0, g1, g2, z0, z1, z2⟩ := info_cells hY
                go_enter Tryz.func79, Tryz.ntmps79
                go_wp2_with (go_at_call 100; refine (hs.out _).mono ?_; rintro e w' ⟨rfl, rfl⟩)
                rw [← hY]
                clear hY
                (first | (go_region_held3 (fun w' => w'.cell? ⟨w.heap.size + 1 + 1, 0, none⟩ = some (.int .i64 b) ∧ w'.cell? ⟨w.heap.size + 1 + 1, 1, none⟩ = some (.int .u64 c) ∧ w'.cell? ⟨w.heap.size + 1 + 1, 2, none⟩ = some (.int .i64 0)) (first | exact ⟨y0, y1, y2⟩ | go_keep) ((first | fail))) | fail)
                all_goals
                  go_wp2_with fail
                  refine bodyPost_ret (v := .tuple #[.agg #[.int .i64 b, .int .u64 c, .int .i64 0], .bool false]) (by simp [results, Tryz.results79, go_sem, z0, z1, z2]; try omega) rfl ⟨b, c, 0, by rw [HX.out]; rfl, (fun _ => ⟨rfl, rfl, rfl⟩), info_keep HK.out.1 _ _ _⟩
            · have q5 : (sI c == 0) = false := by simpa using h5
              have HX := Hid.intro_ (show isE a b c d = false by simp [isE, nOk, hf, h5])
              generalize isE a b c d = X at *
              clear h1 h2 h3 hf hk _ha hb hc hd h5
              obtain ⟨Y, hY⟩ : ∃ Y, Y = ((w.alloc (.cells #[.int .u64 a, .int .u64 b, .int .u64 c, .int .u64 d] 111)).alloc (.cells #[.int .i64 0, .int .u64 0, .int .i64 0] 72)).alloc (.cells #[.int .i64 b, .int .u64 c, .int .i64 d] 72) := ⟨_, rfl⟩
              have HK := Hid.intro_ (info_end hY)
              obtain ⟨y0, y1, y2, g0, g1, g2, z0, z1, z2⟩ := info_cells hY
              go_enter Tryz.func79, Tryz.ntmps79
              go_wp2_with (go_at_call 100; refine (hs.out _).mono ?_; rintro e w' ⟨rfl, rfl⟩)
              rw [← hY]
              clear hY
              refine wp_region_held_drew (S := (fun w' => w'.cell? ⟨w.heap.size + 1 + 1, 0, none⟩ = some (.int .i64 b) ∧ w'.cell? ⟨w.heap.size + 1 + 1, 1, none⟩ = some (.int .u64 c) ∧ w'.cell? ⟨w.heap.size + 1 + 1, 2, none⟩ = some (.int .i64 d))) (by kernel_rfl) ?_ (fun hHeld => ?_)
              · exact ⟨y0, y1, y2⟩
              first
                | (refine tk9 (i := 0) (v := ?_) (by simp only [get9]; rfl) (Or.inl ⟨by rfl, ?_⟩) ?_; rotate_left; (intro w k; (try dsimp only at k); go_simp; try with_reducible rfl); try simp only [Act.put, put9])
                | (refine tk9 (i := 0) (by simp only [get9]; rfl) (Or.inr ⟨by rfl, rfl⟩) ?_; try simp only [Act.put, put9])
                | fail
              first
                | (refine tk9 (i := 1) (v := ?_) (by simp only [get9]; rfl) (Or.inl ⟨by rfl, ?_⟩) ?_; rotate_left; (intro w k; (try dsimp only at k); go_simp; try with_reducible rfl); try simp only [Act.put, put9])
                | (refine tk9 (i := 1) (by simp only [get9]; rfl) (Or.inr ⟨by rfl, rfl⟩) ?_; try simp only [Act.put, put9])
                | fail
              first
                | (refine tk9 (i := 2) (v := ?_) (by simp only [get9]; rfl) (Or.inl ⟨by rfl, ?_⟩) ?_; rotate_left; (intro w k; (try dsimp only at k); go_simp; try with_reducible rfl); try simp only [Act.put, put9])
                | (refine tk9 (i := 2) (by simp only [get9]; rfl) (Or.inr ⟨by rfl, rfl⟩) ?_; try simp only [Act.put, put9])
                | fail
              first
                | (refine tk9 (i := 3) (v := ?_) (by simp only [get9]; rfl) (Or.inl ⟨by rfl, ?_⟩) ?_; rotate_left; (intro w k; (try dsimp only at k); go_simp; try with_reducible rfl); try simp only [Act.put, put9])
                | (refine tk9 (i := 3) (by simp only [get9]; rfl) (Or.inr ⟨by rfl, rfl⟩) ?_; try simp only [Act.put, put9])
                | fail
              first
                | (refine tk9 (i := 4) (v := ?_) (by simp only [get9]; rfl) (Or.inl ⟨by rfl, ?_⟩) ?_; rotate_left; (intro w k; (try dsimp only at k); go_simp; try with_reducible rfl); try simp only [Act.put, put9])
                | (refine tk9 (i := 4) (by simp only [get9]; rfl) (Or.inr ⟨by rfl, rfl⟩) ?_; try simp only [Act.put, put9])
                | fail
              first
                | (refine tk9 (i := 5) (v := ?_) (by simp only [get9]; rfl) (Or.inl ⟨by rfl, ?_⟩) ?_; rotate_left; (intro w k; (try dsimp only at k); go_simp; try with_reducible rfl); try simp only [Act.put, put9])
                | (refine tk9 (i := 5) (by simp only [get9]; rfl) (Or.inr ⟨by rfl, rfl⟩) ?_; try simp only [Act.put, put9])
                | fail
              first
                | (refine tk9 (i := 6) (v := ?_) (by simp only [get9]; rfl) (Or.inl ⟨by rfl, ?_⟩) ?_; rotate_left; (intro w k; (try dsimp only at k); go_simp; try with_reducible rfl); try simp only [Act.put, put9])
                | (refine tk9 (i := 6) (by simp only [get9]; rfl) (Or.inr ⟨by rfl, rfl⟩) ?_; try simp only [Act.put, put9])
                | fail
              first
                | (refine tk9 (i := 7) (v := ?_) (by simp only [get9]; rfl) (Or.inl ⟨by rfl, ?_⟩) ?_; rotate_left; (intro w k; (try dsimp only at k); go_simp; try with_reducible rfl); try simp only [Act.put, put9])
                | (refine tk9 (i := 7) (by simp only [get9]; rfl) (Or.inr ⟨by rfl, rfl⟩) ?_; try simp only [Act.put, put9])
                | fail
              first
                | (refine tk9 (i := 8) (v := ?_) (by simp only [get9]; rfl) (Or.inl ⟨by rfl, ?_⟩) ?_; rotate_left; (intro w k; (try dsimp only at k); go_simp; try with_reducible rfl); try simp only [Act.put, put9])
                | (refine tk9 (i := 8) (by simp only [get9]; rfl) (Or.inr ⟨by rfl, rfl⟩) ?_; try simp only [Act.put, put9])
                | fail
              first
                | (refine tk9 (i := 9) (v := ?_) (by simp only [get9]; rfl) (Or.inl ⟨by rfl, ?_⟩) ?_; rotate_left; (intro w k; (try dsimp only at k); go_simp; try with_reducible rfl); try simp only [Act.put, put9])
                | (refine tk9 (i := 9) (by simp only [get9]; rfl) (Or.inr ⟨by rfl, rfl⟩) ?_; try simp only [Act.put, put9])
                | fail
              first
                | (refine tk9 (i := 10) (v := ?_) (by simp only [get9]; rfl) (Or.inl ⟨by rfl, ?_⟩) ?_; rotate_left; (intro w k; (try dsimp only at k); go_simp; try with_reducible rfl); try simp only [Act.put, put9])
                | (refine tk9 (i := 10) (by simp only [get9]; rfl) (Or.inr ⟨by rfl, rfl⟩) ?_; try simp only [Act.put, put9])
                | fail
              first
                | (refine tk9 (i := 11) (v := ?_) (by simp only [get9]; rfl) (Or.inl ⟨by rfl, ?_⟩) ?_; rotate_left; (intro w k; (try dsimp only at k); go_simp; try with_reducible rfl); try simp only [Act.put, put9])
                | (refine tk9 (i := 11) (by simp only [get9]; rfl) (Or.inr ⟨by rfl, rfl⟩) ?_; try simp only [Act.put, put9])
                | fail
              first
                | (refine tk9 (i := 12) (v := ?_) (by simp only [get9]; rfl) (Or.inl ⟨by rfl, ?_⟩) ?_; rotate_left; (intro w k; (try dsimp only at k); go_simp; try with_reducible rfl); try simp only [Act.put, put9])
                | (refine tk9 (i := 12) (by simp only [get9]; rfl) (Or.inr ⟨by rfl, rfl⟩) ?_; try simp only [Act.put, put9])
                | fail
              first
                | (refine tk9 (i := 13) (v := ?_) (by simp only [get9]; rfl) (Or.inl ⟨by rfl, ?_⟩) ?_; rotate_left; (intro w k; (try dsimp only at k); go_simp; try with_reducible rfl); try simp only [Act.put, put9])
                | (refine tk9 (i := 13) (by simp only [get9]; rfl) (Or.inr ⟨by rfl, rfl⟩) ?_; try simp only [Act.put, put9])
                | fail
              first
                | (refine tk9 (i := 14) (v := ?_) (by simp only [get9]; rfl) (Or.inl ⟨by rfl, ?_⟩) ?_; rotate_left; (intro w k; (try dsimp only at k); go_simp; try with_reducible rfl); try simp only [Act.put, put9])
                | (refine tk9 (i := 14) (by simp only [get9]; rfl) (Or.inr ⟨by rfl, rfl⟩) ?_; try simp only [Act.put, put9])
                | fail
              first
                | (refine tk9 (i := 15) (v := ?_) (by simp only [get9]; rfl) (Or.inl ⟨by rfl, ?_⟩) ?_; rotate_left; (intro w k; (try dsimp only at k); go_simp; try with_reducible rfl); try simp only [Act.put, put9])
                | (refine tk9 (i := 15) (by simp only [get9]; rfl) (Or.inr ⟨by rfl, rfl⟩) ?_; try simp only [Act.put, put9])
                | fail
              first
                | (refine tk9 (i := 16) (v := ?_) (by simp only [get9]; rfl) (Or.inl ⟨by rfl, ?_⟩) ?_; rotate_left; (intro w k; (try dsimp only at k); go_simp; try with_reducible rfl); try simp only [Act.put, put9])
                | (refine tk9 (i := 16) (by simp only [get9]; rfl) (Or.inr ⟨by rfl, rfl⟩) ?_; try simp only [Act.put, put9])
                | fail
              refine wpAnyH_ready (rs := [17]) (by kernel_rfl) (by simp) ?_
              refine AllReadyH.cons (by simp only [get9]; rfl) (fun K hK => ?_) AllReadyH.nil
              go_simp
              refine hK.out _ _ ?_ (fun hHeld => ?_)
              · go_keep
              clear hK K
              (try simp only [Act.put, put9]); refine tk9 (i := 18) (v := ?_) (by simp only [get9]; rfl) (Or.inl ⟨by rfl, ?_⟩) ?_; rotate_left; (intro w k; (try dsimp only at k); go_simp; try with_reducible rfl); try simp only [Act.put, put9]
              refine wpAnyH_done (by kernel_rfl) ?_ _
              all_goals
                go_wp2_with fail
                refine bodyPost_ret (v := .tuple #[.agg #[.int .i64 b, .int .u64 c, .int .i64 d], .bool false]) (by simp [results, Tryz.results79, go_sem, z0, z1, z2]; try omega) rfl ⟨b, c, d, by rw [HX.out]; rfl, (fun _ => ⟨rfl, rfl, rfl⟩), info_keep HK.out.1 _ _ _⟩
          · have q4 : decide (sL c < (b : Int)) = false := decide_eq_false h4
            have HX := Hid.intro_ (show isE a b c d = false by simp [isE, nOk, hf, h4])
            generalize isE a b c d = X at *
            clear h1 h2 h3 hf hk _ha hb hc hd h4
            obtain ⟨Y, hY⟩ : ∃ Y, Y = ((w.alloc (.cells #[.int .u64 a, .int .u64 b, .int .u64 c, .int .u64 d] 111)).alloc (.cells #[.int .i64 0, .int .u64 0, .int .i64 0] 72)).alloc (.cells #[.int .i64 b, .int .u64 c, .int .i64 d] 72) := ⟨_, rfl⟩
            have HK := Hid.intro_ (info_end hY)
            obtain ⟨y0, y1, y2, g0, g1, g2, z0, z1, z2⟩ := info_cells hY
            go_enter Tryz.func79, Tryz.ntmps79
            go_wp2_with (go_at_call 100; refine (hs.out _).mono ?_; rintro e w' ⟨rfl, rfl⟩)
            rw [← hY]
            clear hY
            refine wp_region_held_drew (S := (fun w' => w'.cell? ⟨w.heap.size + 1 + 1, 0, none⟩ = some (.int .i64 b) ∧ w'.cell? ⟨w.heap.size + 1 + 1, 1, none⟩ = some (.int .u64 c) ∧ w'.cell? ⟨w.heap.size + 1 + 1, 2, none⟩ = some (.int .i64 d))) (by kernel_rfl) ?_ (fun hHeld => ?_)
            · exact ⟨y0, y1, y2⟩
            first
              | (refine tk9 (i := 0) (v := ?_) (by simp only [get9]; rfl) (Or.inl ⟨by rfl, ?_⟩) ?_; rotate_left; (intro w k; (try dsimp only at k); go_simp; try with_reducible rfl); try simp only [Act.put, put9])
              | (refine tk9 (i := 0) (by simp only [get9]; rfl) (Or.inr ⟨by rfl, rfl⟩) ?_; try simp only [Act.put, put9])
              | fail
            first
              | (refine tk9 (i := 1) (v := ?_) (by simp only [get9]; rfl) (Or.inl ⟨by rfl, ?_⟩) ?_; rotate_left; (intro w k; (try dsimp only at k); go_simp; try with_reducible rfl); try simp only [Act.put, put9])
              | (refine tk9 (i := 1) (by simp only [get9]; rfl) (Or.inr ⟨by rfl, rfl⟩) ?_; try simp only [Act.put, put9])
              | fail
            first
              | (refine tk9 (i := 2) (v := ?_) (by simp only [get9]; rfl) (Or.inl ⟨by rfl, ?_⟩) ?_; rotate_left; (intro w k; (try dsimp only at k); go_simp; try with_reducible rfl); try simp only [Act.put, put9])
              | (refine tk9 (i := 2) (by simp only [get9]; rfl) (Or.inr ⟨by rfl, rfl⟩) ?_; try simp only [Act.put, put9])
              | fail
            first
              | (refine tk9 (i := 3) (v := ?_) (by simp only [get9]; rfl) (Or.inl ⟨by rfl, ?_⟩) ?_; rotate_left; (intro w k; (try dsimp only at k); go_simp; try with_reducible rfl); try simp only [Act.put, put9])
              | (refine tk9 (i := 3) (by simp only [get9]; rfl) (Or.inr ⟨by rfl, rfl⟩) ?_; try simp only [Act.put, put9])
              | fail
            first
              | (refine tk9 (i := 4) (v := ?_) (by simp only [get9]; rfl) (Or.inl ⟨by rfl, ?_⟩) ?_; rotate_left; (intro w k; (try dsimp only at k); go_simp; try with_reducible rfl); try simp only [Act.put, put9])
              | (refine tk9 (i := 4) (by simp only [get9]; rfl) (Or.inr ⟨by rfl, rfl⟩) ?_; try simp only [Act.put, put9])
              | fail
            first
              | (refine tk9 (i := 5) (v := ?_) (by simp only [get9]; rfl) (Or.inl ⟨by rfl, ?_⟩) ?_; rotate_left; (intro w k; (try dsimp only at k); go_simp; try with_reducible rfl); try simp only [Act.put, put9])
              | (refine tk9 (i := 5) (by simp only [get9]; rfl) (Or.inr ⟨by rfl, rfl⟩) ?_; try simp only [Act.put, put9])
              | fail
            first
              | (refine tk9 (i := 6) (v := ?_) (by simp only [get9]; rfl) (Or.inl ⟨by rfl, ?_⟩) ?_; rotate_left; (intro w k; (try dsimp only at k); go_simp; try with_reducible rfl); try simp only [Act.put, put9])
              | (refine tk9 (i := 6) (by simp only [get9]; rfl) (Or.inr ⟨by rfl, rfl⟩) ?_; try simp only [Act.put, put9])
              | fail
            first
              | (refine tk9 (i := 7) (v := ?_) (by simp only [get9]; rfl) (Or.inl ⟨by rfl, ?_⟩) ?_; rotate_left; (intro w k; (try dsimp only at k); go_simp; try with_reducible rfl); try simp only [Act.put, put9])
              | (refine tk9 (i := 7) (by simp only [get9]; rfl) (Or.inr ⟨by rfl, rfl⟩) ?_; try simp only [Act.put, put9])
              | fail
            first
              | (refine tk9 (i := 8) (v := ?_) (by simp only [get9]; rfl) (Or.inl ⟨by rfl, ?_⟩) ?_; rotate_left; (intro w k; (try dsimp only at k); go_simp; try with_reducible rfl); try simp only [Act.put, put9])
              | (refine tk9 (i := 8) (by simp only [get9]; rfl) (Or.inr ⟨by rfl, rfl⟩) ?_; try simp only [Act.put, put9])
              | fail
            first
              | (refine tk9 (i := 9) (v := ?_) (by simp only [get9]; rfl) (Or.inl ⟨by rfl, ?_⟩) ?_; rotate_left; (intro w k; (try dsimp only at k); go_simp; try with_reducible rfl); try simp only [Act.put, put9])
              | (refine tk9 (i := 9) (by simp only [get9]; rfl) (Or.inr ⟨by rfl, rfl⟩) ?_; try simp only [Act.put, put9])
              | fail
            first
              | (refine tk9 (i := 10) (v := ?_) (by simp only [get9]; rfl) (Or.inl ⟨by rfl, ?_⟩) ?_; rotate_left; (intro w k; (try dsimp only at k); go_simp; try with_reducible rfl); try simp only [Act.put, put9])
              | (refine tk9 (i := 10) (by simp only [get9]; rfl) (Or.inr ⟨by rfl, rfl⟩) ?_; try simp only [Act.put, put9])
              | fail
            first
              | (refine tk9 (i := 11) (v := ?_) (by simp only [get9]; rfl) (Or.inl ⟨by rfl, ?_⟩) ?_; rotate_left; (intro w k; (try dsimp only at k); go_simp; try with_reducible rfl); try simp only [Act.put, put9])
              | (refine tk9 (i := 11) (by simp only [get9]; rfl) (Or.inr ⟨by rfl, rfl⟩) ?_; try simp only [Act.put, put9])
              | fail
            first
              | (refine tk9 (i := 12) (v := ?_) (by simp only [get9]; rfl) (Or.inl ⟨by rfl, ?_⟩) ?_; rotate_left; (intro w k; (try dsimp only at k); go_simp; try with_reducible rfl); try simp only [Act.put, put9])
              | (refine tk9 (i := 12) (by simp only [get9]; rfl) (Or.inr ⟨by rfl, rfl⟩) ?_; try simp only [Act.put, put9])
              | fail
            first
              | (refine tk9 (i := 13) (v := ?_) (by simp only [get9]; rfl) (Or.inl ⟨by rfl, ?_⟩) ?_; rotate_left; (intro w k; (try dsimp only at k); go_simp; try with_reducible rfl); try simp only [Act.put, put9])
              | (refine tk9 (i := 13) (by simp only [get9]; rfl) (Or.inr ⟨by rfl, rfl⟩) ?_; try simp only [Act.put, put9])
              | fail
            first
              | (refine tk9 (i := 14) (v := ?_) (by simp only [get9]; rfl) (Or.inl ⟨by rfl, ?_⟩) ?_; rotate_left; (intro w k; (try dsimp only at k); go_simp; try with_reducible rfl); try simp only [Act.put, put9])
              | (refine tk9 (i := 14) (by simp only [get9]; rfl) (Or.inr ⟨by rfl, rfl⟩) ?_; try simp only [Act.put, put9])
              | fail
            first
              | (refine tk9 (i := 15) (v := ?_) (by simp only [get9]; rfl) (Or.inl ⟨by rfl, ?_⟩) ?_; rotate_left; (intro w k; (try dsimp only at k); go_simp; try with_reducible rfl); try simp only [Act.put, put9])
              | (refine tk9 (i := 15) (by simp only [get9]; rfl) (Or.inr ⟨by rfl, rfl⟩) ?_; try simp only [Act.put, put9])
              | fail
            first
              | (refine tk9 (i := 16) (v := ?_) (by simp only [get9]; rfl) (Or.inl ⟨by rfl, ?_⟩) ?_; rotate_left; (intro w k; (try dsimp only at k); go_simp; try with_reducible rfl); try simp only [Act.put, put9])
              | (refine tk9 (i := 16) (by simp only [get9]; rfl) (Or.inr ⟨by rfl, rfl⟩) ?_; try simp only [Act.put, put9])
              | fail
            refine wpAnyH_ready (rs := [17]) (by kernel_rfl) (by simp) ?_
            refine AllReadyH.cons (by simp only [get9]; rfl) (fun K hK => ?_) AllReadyH.nil
            go_simp
            refine hK.out _ _ ?_ (fun hHeld => ?_)
            · go_keep
            clear hK K
            (try simp only [Act.put, put9]); refine tk9 (i := 18) (v := ?_) (by simp only [get9]; rfl) (Or.inl ⟨by rfl, ?_⟩) ?_; rotate_left; (intro w k; (try dsimp only at k); go_simp; try with_reducible rfl); try simp only [Act.put, put9]
            refine wpAnyH_done (by kernel_rfl) ?_ _
            all_goals
              go_wp2_with fail
              refine bodyPost_ret (v := .tuple #[.agg #[.int .i64 b, .int .u64 c, .int .i64 d], .bool false]) (by simp [results, Tryz.results79, go_sem, z0, z1, z2]; try omega) rfl ⟨b, c, d, by rw [HX.out]; rfl, (fun _ => ⟨rfl, rfl, rfl⟩), info_keep HK.out.1 _ _ _⟩
        · rw [hf] at hs
          by_cases h6 : d = 0
          · subst h6
            have HX := Hid.intro_ (show isE a b c 0 = true by simp [isE, h1, h2, hf])
            generalize isE a b c 0 = X at *
            clear h1 h2 h3 hf _ha hb hc hd
            obtain ⟨Y, hY⟩ : ∃ Y, Y = ((w.alloc (.cells #[.int .u64 a, .int .u64 b, .int .u64 c, .int .u64 0] 111)).alloc (.cells #[.int .i64 0, .int .u64 0, .int .i64 0] 72)).alloc (.cells #[.int .i64 b, .int .u64 c, .int .i64 0] 72) := ⟨_, rfl⟩
            have HK := Hid.intro_ (info_end hY)
            obtain ⟨y0, y1, y2, g0, g1, g2, z0, z1, z2⟩ := info_cells hY
            go_enter Tryz.func79, Tryz.ntmps79
            go_wp2_with (go_at_call 100; refine (hs.out _).mono ?_; rintro e w' ⟨rfl, rfl⟩)
            rw [← hY]
            clear hY
            (first | (go_region_held3 (fun w' => w'.cell? ⟨w.heap.size + 1 + 1, 0, none⟩ = some (.int .i64 b) ∧ w'.cell? ⟨w.heap.size + 1 + 1, 1, none⟩ = some (.int .u64 c) ∧ w'.cell? ⟨w.heap.size + 1 + 1, 2, none⟩ = some (.int .i64 0)) (first | exact ⟨y0, y1, y2⟩ | go_keep) ((first | fail))) | fail)
            all_goals
              go_wp2_with fail
              refine bodyPost_ret (v := .tuple #[.agg #[.int .i64 b, .int .u64 c, .int .i64 0], .bool true]) (by simp [results, Tryz.results79, go_sem, z0, z1, z2]; try omega) rfl ⟨b, c, 0, by rw [HX.out]; rfl, (fun _ => ⟨rfl, rfl, rfl⟩), info_keep HK.out.1 _ _ _⟩
          · have q6 : ((d : Int) == 0) = false := by simp; omega
            have HX := Hid.intro_ (show isE a b c d = false by simp [isE, hf, h6])
            generalize isE a b c d = X at *
            clear h1 h2 h3 hf _ha hb hc hd h6
            obtain ⟨Y, hY⟩ : ∃ Y, Y = ((w.alloc (.cells #[.int .u64 a, .int .u64 b, .int .u64 c, .int .u64 d] 111)).alloc (.cells #[.int .i64 0, .int .u64 0, .int .i64 0] 72)).alloc (.cells #[.int .i64 b, .int .u64 c, .int .i64 d] 72) := ⟨_, rfl⟩
            have HK := Hid.intro_ (info_end hY)
            obtain ⟨y0, y1, y2, g0, g1, g2, z0, z1, z2⟩ := info_cells hY
            go_enter Tryz.func79, Tryz.ntmps79
            go_wp2_with (go_at_call 100; refine (hs.out _).mono ?_; rintro e w' ⟨rfl, rfl⟩)
            rw [← hY]
            clear hY
            (first | (go_region_held3 (fun w' => w'.cell? ⟨w.heap.size + 1 + 1, 0, none⟩ = some (.int .i64 b) ∧ w'.cell? ⟨w.heap.size + 1 + 1, 1, none⟩ = some (.int .u64 c) ∧ w'.cell? ⟨w.heap.size + 1 + 1, 2, none⟩ = some (.int .i64 d)) (first | exact ⟨y0, y1, y2⟩ | go_keep) ((first | fail))) | fail)
            all_goals
              go_wp2_with fail
              refine bodyPost_ret (v := .tuple #[.agg #[.int .i64 b, .int .u64 c, .int .i64 d], .bool false]) (by simp [results, Tryz.results79, go_sem, z0, z1, z2]; try omega) rfl ⟨b, c, d, by rw [HX.out]; rfl, (fun _ => ⟨rfl, rfl, rfl⟩), info_keep HK.out.1 _ _ _⟩
      · have q3 : (9223372036854775808 : Int) ≤ (d : Int) := by omega
        have HX := Hid.intro_ (show isE a b c d = false by simp [isE]; omega)
        generalize isE a b c d = X at *
        clear h1 h2 h3 _ha hb hc hd
        go_enter Tryz.func79, Tryz.ntmps79
        go_wp2_with (go_at_call 100; refine (hs.out _).mono ?_; rintro e w' ⟨rfl, rfl⟩)
        refine bodyPost_ret (v := .tuple #[.agg #[.int .i64 0, .int .u64 0, .int .i64 0], .bool false]) (by simp [results, Tryz.results79, go_sem]) rfl ⟨0, 0, 0, by rw [HX.out]; rfl, (fun h => by rw [HX.out] at h; cases h), (by repeat (first | exact Keep.refl _ _ | refine Keep.alloc ?_ _ | refine Keep.drew ?_ | refine Keep.drewN ?_ _ | refine Keep.setCell ?_ (fun hlt => absurd hlt (by simp)) _))⟩
    · have q2 : (65536 : Int) < (b : Int) := by omega
      have HX := Hid.intro_ (show isE a b c d = false by simp [isE, h2])
      generalize isE a b c d = X at *
      clear h1 h2 _ha hb hc hd
      go_enter Tryz.func79, Tryz.ntmps79
      go_wp2_with (go_at_call 100; refine (hs.out _).mono ?_; rintro e w' ⟨rfl, rfl⟩)
      refine bodyPost_ret (v := .tuple #[.agg #[.int .i64 0, .int .u64 0, .int .i64 0], .bool false]) (by simp [results, Tryz.results79, go_sem]) rfl ⟨0, 0, 0, by rw [HX.out]; rfl, (fun h => by rw [HX.out] at h; cases h), (by repeat (first | exact Keep.refl _ _ | refine Keep.alloc ?_ _ | refine Keep.drew ?_ | refine Keep.drewN ?_ _ | refine Keep.setCell ?_ (fun hlt => absurd hlt (by simp)) _))⟩
  · have q1 : ((a : Int) != 18446744073709551615) = true := by simp; omega
    have HX := Hid.intro_ (show isE a b c d = false by simp [isE, h1])
    generalize isE a b c d = X at *
    clear h1 _ha hb hc hd
    go_enter Tryz.func79, Tryz.ntmps79
    go_wp2_with (go_at_call 100; refine (hs.out _).mono ?_; rintro e w' ⟨rfl, rfl⟩)
    refine bodyPost_ret (v := .tuple #[.agg #[.int .i64 0, .int .u64 0, .int .i64 0], .bool false]) (by simp [results, Tryz.results79, go_sem]) rfl ⟨0, 0, 0, by rw [HX.out]; rfl, (fun h => by rw [HX.out] at h; cases h), (by repeat (first | exact Keep.refl _ _ | refine Keep.alloc ?_ _ | refine Keep.drew ?_ | refine Keep.drewN ?_ _ | refine Keep.setCell ?_ (fun hlt => absurd hlt (by simp)) _))⟩
set_option maxRecDepth 100000 in
set_option maxHeartbeats 2000000 in
theorem isend_any (a b c d : Nat) (_ha : a < 18446744073709551616) (hb : b < 18446744073709551616) (hc : c < 18446744073709551616) (hd : d < 18446744073709551616) (w : World) :
    Calls Tryz.prog 77 #[rcV a b c d] w fun e w' => e = .returned (.tuple #[if isE a b c d = true then inV b c d else inV 0 0 0, .bool (isE a b c d)]) ∧ Keep Nil w w' := by
  obtain ⟨ans, hans⟩ : ∃ v, v = Value.tuple #[if isE a b c d = true then inV b c d else inV 0 0 0, .bool (isE a b c d)] := ⟨_, rfl⟩
  rw [← hans]
  have HA := Hid.intro_ hans
  clear hans
  have hs := Hid.intro_ (node_any c b hc)
  unfold rcV
  by_cases h1 : a = 18446744073709551615
  · have q1 : ((a : Int) != 18446744073709551615) = false := by simp; omega
    by_cases h2 : b ≤ 65536
    · have q2 : ¬ ((65536 : Int) < (b : Int)) := by omega
      by_cases h3 : d < 9223372036854775808
      · have q3 : ¬ ((9223372036854775807 : Int) < (d : Int)) := by omega
        have w1 : IntKind.i64.wrap (b : Int) = b := IntWalk.i64_in _ (by omega)
        have w2 : IntKind.i64.wrap (d : Int) = d := IntWalk.i64_in _ (by omega)
        cases hf : sF c
        · have hl : ¬ c = 9223372036854775808 ∧ ¬ c = 9223372036854775809 := by simpa [sF] using hf
          have q8 : ((c : Int) == 9223372036854775808) = false := by simp; omega
          have q9 : ((c : Int) == 9223372036854775809) = false := by simp; omega
          cases hk : nOk c b
          · rw [hk] at hs
            have HX := Hid.intro_ (show isE a b c d = false by simp [isE, hf, hk])
            generalize isE a b c d = X at *
            clear h1 h2 h3 hf hk _ha hb hc hd hl
            go_enter Tryz.func77, Tryz.ntmps77
            go_wp2_with (go_at_call 153; refine (hs.out _).mono ?_; rintro e w' ⟨rfl, rfl⟩)
            refine bodyPost_ret (v := .tuple #[.agg #[.int .i64 0, .int .u64 0, .int .i64 0], .bool false]) (by simp [results, Tryz.results77, go_sem]) rfl ⟨by rw [HA.out, HX.out]; rfl, (by repeat (first | exact Keep.refl _ _ | refine Keep.alloc ?_ _ | refine Keep.drew ?_ | refine Keep.drewN ?_ _ | refine Keep.setCell ?_ (fun hlt => absurd hlt (by simp)) _))⟩
          rw [hk] at hs
          by_cases h5 : sI c = 0
          · have q5 : (sI c == 0) = true := by simpa using h5
            by_cases h6 : 0 < d
            · have q6 : (0 : Int) < (d : Int) := by omega
              have HX := Hid.intro_ (show isE a b c d = true by simp [isE, hf, hk, h1, h2, h3, h5]; omega)
              generalize isE a b c d = X at *
              clear h1 h2 h3 hf hk _ha hb hc hd hl h5 h6
              go_enter Tryz.func77, Tryz.ntmps77
              go_wp2_with (go_at_call 153; refine (hs.out _).mono ?_; rintro e w' ⟨rfl, rfl⟩)
              refine bodyPost_ret (v := .tuple #[.agg #[.int .i64 b, .int .u64 c, .int .i64 d], .bool true]) (by simp [results, Tryz.results77, go_sem]) rfl ⟨by rw [HA.out, HX.out]; rfl, (by repeat (first | exact Keep.refl _ _ | refine Keep.alloc ?_ _ | refine Keep.drew ?_ | refine Keep.drewN ?_ _ | refine Keep.setCell ?_ (fun hlt => absurd hlt (by simp)) _))⟩
            · obtain rfl : d = 0 := by omega
              have HX := Hid.intro_ (show isE a b c 0 = false by simp [isE, hf])
              generalize isE a b c 0 = X at *
              clear h1 h2 h3 hf hk _ha hb hc hd hl h5 h6
              go_enter Tryz.func77, Tryz.ntmps77
              go_wp2_with (go_at_call 153; refine (hs.out _).mono ?_; rintro e w' ⟨rfl, rfl⟩)
              refine bodyPost_ret (v := .tuple #[.agg #[.int .i64 0, .int .u64 0, .int .i64 0], .bool false]) (by simp [results, Tryz.results77, go_sem]) rfl ⟨by rw [HA.out, HX.out]; rfl, (by repeat (first | exact Keep.refl _ _ | refine Keep.alloc ?_ _ | refine Keep.drew ?_ | refine Keep.drewN ?_ _ | refine Keep.setCell ?_ (fun hlt => absurd hlt (by simp)) _))⟩
          · have q5 : (sI c == 0) = false := by simpa using h5
            have HX := Hid.intro_ (show isE a b c d = false by simp [isE, hf, h5])
            generalize isE a b c d = X at *
            clear h1 h2 h3 hf hk _ha hb hc hd hl h5
            go_enter Tryz.func77, Tryz.ntmps77
            go_wp2_with (go_at_call 153; refine (hs.out _).mono ?_; rintro e w' ⟨rfl, rfl⟩)
            refine bodyPost_ret (v := .tuple #[.agg #[.int .i64 0, .int .u64 0, .int .i64 0], .bool false]) (by simp [results, Tryz.results77, go_sem]) rfl ⟨by rw [HA.out, HX.out]; rfl, (by repeat (first | exact Keep.refl _ _ | refine Keep.alloc ?_ _ | refine Keep.drew ?_ | refine Keep.drewN ?_ _ | refine Keep.setCell ?_ (fun hlt => absurd hlt (by simp)) _))⟩
        · have hk : nOk c b = false := by simp [nOk, hf]
          rw [hk] at hs
          by_cases h6 : d = 0
          · subst h6
            by_cases h7 : c = 9223372036854775808
            · subst h7
              have HX := Hid.intro_ (show isE a b 9223372036854775808 0 = true by simp [isE, h1, h2, hf])
              generalize isE a b 9223372036854775808 0 = X at *
              clear h1 h2 h3 hf hk _ha hb hc hd
              go_enter Tryz.func77, Tryz.ntmps77
              go_wp2_with (go_at_call 153; refine (hs.out _).mono ?_; rintro e w' ⟨rfl, rfl⟩)
              refine bodyPost_ret (v := .tuple #[.agg #[.int .i64 b, .int .u64 9223372036854775808, .int .i64 0], .bool true]) (by simp [results, Tryz.results77, go_sem]) rfl ⟨by rw [HA.out, HX.out]; rfl, (by repeat (first | exact Keep.refl _ _ | refine Keep.alloc ?_ _ | refine Keep.drew ?_ | refine Keep.drewN ?_ _ | refine Keep.setCell ?_ (fun hlt => absurd hlt (by simp)) _))⟩
            · obtain rfl : c = 9223372036854775809 := by simp [sF] at hf; omega
              have HX := Hid.intro_ (show isE a b 9223372036854775809 0 = true by simp [isE, h1, h2, hf])
              generalize isE a b 9223372036854775809 0 = X at *
              clear h1 h2 h3 hf hk _ha hb hc hd h7
              go_enter Tryz.func77, Tryz.ntmps77
              go_wp2_with (go_at_call 153; refine (hs.out _).mono ?_; rintro e w' ⟨rfl, rfl⟩)
              refine bodyPost_ret (v := .tuple #[.agg #[.int .i64 b, .int .u64 9223372036854775809, .int .i64 0], .bool true]) (by simp [results, Tryz.results77, go_sem]) rfl ⟨by rw [HA.out, HX.out]; rfl, (by repeat (first | exact Keep.refl _ _ | refine Keep.alloc ?_ _ | refine Keep.drew ?_ | refine Keep.drewN ?_ _ | refine Keep.setCell ?_ (fun hlt => absurd hlt (by simp)) _))⟩
          · have q6 : ((d : Int) == 0) = false := by simp; omega
            obtain ⟨lf, hlf⟩ : ∃ lf : Bool, lf = sF c := ⟨_, rfl⟩
            by_cases h7 : c = 9223372036854775808
            · subst h7
              have HX := Hid.intro_ (show isE a b 9223372036854775808 d = false by simp [isE, hf, h6])
              generalize isE a b 9223372036854775808 d = X at *
              clear h1 h2 h3 hf hk _ha hb hc hd h6
              go_enter Tryz.func77, Tryz.ntmps77
              go_wp2_with (go_at_call 153; refine (hs.out _).mono ?_; rintro e w' ⟨rfl, rfl⟩)
              refine bodyPost_ret (v := .tuple #[.agg #[.int .i64 0, .int .u64 0, .int .i64 0], .bool false]) (by simp [results, Tryz.results77, go_sem]) rfl ⟨by rw [HA.out, HX.out]; rfl, (by repeat (first | exact Keep.refl _ _ | refine Keep.alloc ?_ _ | refine Keep.drew ?_ | refine Keep.drewN ?_ _ | refine Keep.setCell ?_ (fun hlt => absurd hlt (by simp)) _))⟩
            · obtain rfl : c = 9223372036854775809 := by simp [sF] at hf; omega
              have HX := Hid.intro_ (show isE a b 9223372036854775809 d = false by simp [isE, hf, h6])
              generalize isE a b 9223372036854775809 d = X at *
              clear h1 h2 h3 hf hk _ha hb hc hd h6 h7
              go_enter Tryz.func77, Tryz.ntmps77
              go_wp2_with (go_at_call 153; refine (hs.out _).mono ?_; rintro e w' ⟨rfl, rfl⟩)
              refine bodyPost_ret (v := .tuple #[.agg #[.int .i64 0, .int .u64 0, .int .i64 0], .bool false]) (by simp [results, Tryz.results77, go_sem]) rfl ⟨by rw [HA.out, HX.out]; rfl, (by repeat (first | exact Keep.refl _ _ | refine Keep.alloc ?_ _ | refine Keep.drew ?_ | refine Keep.drewN ?_ _ | refine Keep.setCell ?_ (fun hlt => absurd hlt (by simp)) _))⟩
      · have q3 : (9223372036854775807 : Int) < (d : Int) := by omega
        have HX := Hid.intro_ (show isE a b c d = false by simp [isE]; omega)
        generalize isE a b c d = X at *
        clear h1 h2 h3 _ha hb hc hd
        go_enter Tryz.func77, Tryz.ntmps77
        go_wp2_with (go_at_call 153; refine (hs.out _).mono ?_; rintro e w' ⟨rfl, rfl⟩)
        refine bodyPost_ret (v := .tuple #[.agg #[.int .i64 0, .int .u64 0, .int .i64 0], .bool false]) (by simp [results, Tryz.results77, go_sem]) rfl ⟨by rw [HA.out, HX.out]; rfl, (by repeat (first | exact Keep.refl _ _ | refine Keep.alloc ?_ _ | refine Keep.drew ?_ | refine Keep.drewN ?_ _ | refine Keep.setCell ?_ (fun hlt => absurd hlt (by simp)) _))⟩
    · have q2 : (65536 : Int) < (b : Int) := by omega
      have HX := Hid.intro_ (show isE a b c d = false by simp [isE, h2])
      generalize isE a b c d = X at *
      clear h1 h2 _ha hb hc hd
      go_enter Tryz.func77, Tryz.ntmps77
      go_wp2_with (go_at_call 153; refine (hs.out _).mono ?_; rintro e w' ⟨rfl, rfl⟩)
      refine bodyPost_ret (v := .tuple #[.agg #[.int .i64 0, .int .u64 0, .int .i64 0], .bool false]) (by simp [results, Tryz.results77, go_sem]) rfl ⟨by rw [HA.out, HX.out]; rfl, (by repeat (first | exact Keep.refl _ _ | refine Keep.alloc ?_ _ | refine Keep.drew ?_ | refine Keep.drewN ?_ _ | refine Keep.setCell ?_ (fun hlt => absurd hlt (by simp)) _))⟩
  · have q1 : ((a : Int) != 18446744073709551615) = true := by simp; omega
    have HX := Hid.intro_ (show isE a b c d = false by simp [isE, h1])
    generalize isE a b c d = X at *
    clear h1 _ha hb hc hd
    go_enter Tryz.func77, Tryz.ntmps77
    go_wp2_with (go_at_call 153; refine (hs.out _).mono ?_; rintro e w' ⟨rfl, rfl⟩)
    refine bodyPost_ret (v := .tuple #[.agg #[.int .i64 0, .int .u64 0, .int .i64 0], .bool false]) (by simp [results, Tryz.results77, go_sem]) rfl ⟨by rw [HA.out, HX.out]; rfl, (by repeat (first | exact Keep.refl _ _ | refine Keep.alloc ?_ _ | refine Keep.drew ?_ | refine Keep.drewN ?_ _ | refine Keep.setCell ?_ (fun hlt => absurd hlt (by simp)) _))⟩
end Go.Proofs.YtadipinnbehhhaaGreatDoor
