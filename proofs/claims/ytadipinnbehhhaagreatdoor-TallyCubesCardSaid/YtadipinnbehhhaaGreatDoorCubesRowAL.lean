/- Parts of the proof: Look Follow Cur OpenC Begin Fits0. -/
import Derived.Test.YtadipinnbehhhaaGreatDoorCubesRowAJ
import Derived.Test.YtadipinnbehhhaaGreatDoorCubesRowAK
import Derived.Test.YtadipinnbehhhaaGreatDoorCubesRowAI
namespace Go.Proofs.YtadipinnbehhhaaGreatDoor
open Go.RowKit

def endL (L : List R4) : Option (Nat × Nat × Nat) := match L.reverse with
  | [] => none
  | r :: _ => if isE r.a r.b r.c r.d = true then some (r.b, r.c, r.d) else none
def ansV : Option (Nat × Nat × Nat) → Value
  | none => .agg #[.int .i64 0, .int .u64 0, .int .i64 0]
  | some (v, r, n) => inV v r n
def ansN : Option (Nat × Nat × Nat) → Int
  | none => 72
  | some _ => 0
section
variable {c : Cx} {w w' : World} {G : Nat → Prop} {s s' : RSt} {fs : List (ByteArray × AFile)} {name : ByteArray} {kind : Nat} {L : List R4}

theorem WentTo.new_cell {w1 w2 : World} {J : Nat} {k : Int} (h : RmAt c w G s) {o : Obj} (t : WentTo c G J k s (w.alloc o) w1) (kp : Keep (fun y => y = w.heap.size) w1 w2) : WentTo c G J k s w w2 := by
  obtain ⟨j, s', hj, hw, ht⟩ := t
  exact ⟨j, s', hj, hw, RmTo.new_cell h ht kp⟩
theorem WentTo.kept {w1 : World} {J : Nat} {k : Int} (h : RmAt c w G s) {t : TypeId} {cs : Array Value} (ht : WentTo c G J k s (w.alloc (.cells cs t)) w1) : Blk w1 w.heap.size t cs := by
  obtain ⟨_, _, _, _, G1, h1, s1⟩ := ht
  exact (Blk.new w t cs).keep s1.keep (fun hg => Nat.lt_irrefl _ (h.lt _ hg))
set_option maxRecDepth 100000 in
set_option maxHeartbeats 2000000 in
theorem look_bad (n : Int) (sm : Bool) (h : RmAt c w G s) (hz : ¬ n = 0)
    (hl : Calls Tryz.prog 78 #[.pointer (some ⟨c.k, 0, none⟩), .string name, .int .i64 2] (w.alloc (.cells #[.int .i64 0, .int .u64 0, .int .i64 0] 72)) fun e w' => e = .returned (.tuple #[zero4, .bool sm, .int .i64 n]) ∧ WentTo c G 1 0 s (w.alloc (.cells #[.int .i64 0, .int .u64 0, .int .i64 0] 72)) w') :
    Calls Tryz.prog 26 #[.pointer (some ⟨c.k, 0, none⟩), .string name] w fun e w' => e = .returned (.tuple #[ansV none, .int .i64 n]) ∧ WentTo c G 1 0 s w w' := by
  have HL := Hid.intro_ hl
  have HH := Hid.intro_ h
  have q : (n != 0) = true := by simpa using hz
  unfold zero4 at *
  clear hl h hz
  go_enter Tryz.func26, Tryz.ntmps26
  go_wp2_with fail
  refine HL.out.mono ?_
  rintro e w1 ⟨rfl, hto⟩
  have hb := WentTo.kept HH.out hto
  have z0 : w1.cell? ⟨w.heap.size, 0, none⟩ = some (.int .i64 0) := hb.at_ 0
  have z1 : w1.cell? ⟨w.heap.size, 1, none⟩ = some (.int .u64 0) := hb.at_ 1
  have z2 : w1.cell? ⟨w.heap.size, 2, none⟩ = some (.int .i64 0) := hb.at_ 2
  have g0 := hb.fr 0
  have g1 := hb.fr 1
  have g2 := hb.fr 2
  have hlt := hb.lt
  have hne : ¬ w.heap.size = w1.heap.size := by omega
  have hne2 : ¬ w1.heap.size = w.heap.size := by omega
  have HTO := Hid.intro_ hto
  have HB := Hid.intro_ hb
  clear hto hb
  go_wp2_with fail
  have hb3 := (((HB.out.set_ 0 (.int .i64 0)).set_ 1 (.int .u64 0)).set_ 2 (.int .i64 0)).alloc (.cells #[.int .u64 0, .int .u64 0, .int .u64 0, .int .u64 0] 111)
  have kp := ((((Keep.refl (fun y => y = w.heap.size) w1).setCell (p := ⟨w.heap.size, 0, none⟩) (fun _ => rfl) (.int .i64 0)).setCell (p := ⟨w.heap.size, 1, none⟩) (fun _ => rfl) (.int .u64 0)).setCell (p := ⟨w.heap.size, 2, none⟩) (fun _ => rfl) (.int .i64 0)).alloc (.cells #[.int .u64 0, .int .u64 0, .int .u64 0, .int .u64 0] 111)
  generalize (((w1.setCell ⟨w.heap.size, 0, none⟩ (.int .i64 0)).setCell ⟨w.heap.size, 1, none⟩ (.int .u64 0)).setCell ⟨w.heap.size, 2, none⟩ (.int .i64 0)).alloc (.cells #[.int .u64 0, .int .u64 0, .int .u64 0, .int .u64 0] 111) = X at *
  have y0 : X.cell? ⟨w.heap.size, 0, none⟩ = some (.int .i64 0) := hb3.at_ 0
  have y1 : X.cell? ⟨w.heap.size, 1, none⟩ = some (.int .u64 0) := hb3.at_ 1
  have y2 : X.cell? ⟨w.heap.size, 2, none⟩ = some (.int .i64 0) := hb3.at_ 2
  refine bodyPost_ret (v := .tuple #[.agg #[.int .i64 0, .int .u64 0, .int .i64 0], .int .i64 n]) (by simp [results, Tryz.results26, go_sem, y0, y1, y2]) rfl ⟨rfl, WentTo.new_cell HH.out HTO.out kp⟩
def toldE (sm : Bool) (a b c d : Nat) : Option (Nat × Nat × Nat) := if (sm && isE a b c d) = true then some (b, c, d) else none
set_option maxRecDepth 100000 in
set_option maxHeartbeats 2000000 in
theorem look_rec (a b d e0 : Nat) (sm : Bool) (h : RmAt c w G s) (ha : a < 18446744073709551616) (hb : b < 18446744073709551616) (hd : d < 18446744073709551616) (he : e0 < 18446744073709551616)
    (hl : Calls Tryz.prog 78 #[.pointer (some ⟨c.k, 0, none⟩), .string name, .int .i64 2] (w.alloc (.cells #[.int .i64 0, .int .u64 0, .int .i64 0] 72)) fun e w' => e = .returned (.tuple #[rcV a b d e0, .bool sm, .int .i64 0]) ∧ WentTo c G 1 0 s (w.alloc (.cells #[.int .i64 0, .int .u64 0, .int .i64 0] 72)) w') :
    Calls Tryz.prog 26 #[.pointer (some ⟨c.k, 0, none⟩), .string name] w fun e w' => e = .returned (.tuple #[ansV (toldE sm a b d e0), .int .i64 (ansN (toldE sm a b d e0))]) ∧ WentTo c G 1 0 s w w' := by
  have HL := Hid.intro_ hl
  have HH := Hid.intro_ h
  have HE := Hid.intro_ (fun W => endof_any a b d e0 ha hb hd he W)
  unfold rcV at *
  obtain ⟨T, hT⟩ : ∃ T, T = toldE sm a b d e0 := ⟨_, rfl⟩
  rw [← hT]
  have HT := Hid.intro_ hT
  clear hl h ha hb hd he hT
  go_enter Tryz.func26, Tryz.ntmps26
  go_wp2_with fail
  refine HL.out.mono ?_
  rintro e w1 ⟨rfl, hto⟩
  have hb := WentTo.kept HH.out hto
  have hlt := hb.lt
  have HTO := Hid.intro_ hto
  have HB := Hid.intro_ hb
  clear hto hb
  go_wp2_with fail
  refine (HE.out _).mono ?_
  rintro e w2 ⟨x, y, z, rfl, hxyz, k2⟩
  unfold inV
  have k12 := ((Keep.refl Nil w1).alloc (.cells #[.int .u64 a, .int .u64 b, .int .u64 d, .int .u64 e0] 111)).then_ k2
  have hb2 := HB.out.keep k12 (fun h => h)
  have z0 : w2.cell? ⟨w.heap.size, 0, none⟩ = some (.int .i64 0) := hb2.at_ 0
  have z1 : w2.cell? ⟨w.heap.size, 1, none⟩ = some (.int .u64 0) := hb2.at_ 1
  have z2 : w2.cell? ⟨w.heap.size, 2, none⟩ = some (.int .i64 0) := hb2.at_ 2
  have g0 := hb2.fr 0
  have g1 := hb2.fr 1
  have g2 := hb2.fr 2
  have hlt2 := hb2.lt
  have hne : ¬ w.heap.size = w2.heap.size := by omega
  have hne2 : ¬ w2.heap.size = w.heap.size := by omega
  have K12 := Hid.intro_ k12
  have HB2 := Hid.intro_ hb2
  clear k2 k12 hb2
  obtain ⟨ok, hok⟩ : ∃ ok, ok = isE a b d e0 := ⟨_, rfl⟩
  rw [← hok] at hxyz ⊢
  have HOK := Hid.intro_ hok
  have HXYZ := Hid.intro_ hxyz
  clear hok hxyz
  have hfin : Hid (∀ (T2 : Option (Nat × Nat × Nat)) (v : Nat × Nat × Nat), ansV T2 = .agg #[.int .i64 v.1, .int .u64 v.2.1, .int .i64 v.2.2] → T = T2 →
      ∀ X, X = ((((w2.setCell ⟨w.heap.size, 0, none⟩ (.int .i64 v.1)).setCell ⟨w.heap.size, 1, none⟩ (.int .u64 v.2.1)).setCell ⟨w.heap.size, 2, none⟩ (.int .i64 v.2.2)).alloc (.cells #[.int .i64 x, .int .u64 y, .int .i64 z] 72)) →
      X.cell? ⟨w.heap.size, 0, none⟩ = some (.int .i64 v.1) ∧ X.cell? ⟨w.heap.size, 1, none⟩ = some (.int .u64 v.2.1) ∧ X.cell? ⟨w.heap.size, 2, none⟩ = some (.int .i64 v.2.2) ∧ WentTo c G 1 0 s w X) := Hid.intro_ (fun T2 v _ _ X hX => by
    have hb3 := (((HB2.out.set_ 0 (.int .i64 v.1)).set_ 1 (.int .u64 v.2.1)).set_ 2 (.int .i64 v.2.2)).alloc (.cells #[.int .i64 x, .int .u64 y, .int .i64 z] 72)
    have kp := ((((K12.out.mono (fun _ _ h => h.elim : ∀ b, b < w1.heap.size → Nil b → b = w.heap.size)).then_ (Keep.refl (fun y => y = w.heap.size) w2)).setCell (p := ⟨w.heap.size, 0, none⟩) (fun _ => rfl) (.int .i64 v.1)).setCell (p := ⟨w.heap.size, 1, none⟩) (fun _ => rfl) (.int .u64 v.2.1)).setCell (p := ⟨w.heap.size, 2, none⟩) (fun _ => rfl) (.int .i64 v.2.2) |>.alloc (.cells #[.int .i64 x, .int .u64 y, .int .i64 z] 72)
    rw [← hX] at hb3 kp
    exact ⟨hb3.at_ 0, hb3.at_ 1, hb3.at_ 2, WentTo.new_cell HH.out HTO.out kp⟩)
  cases sm with
  | false =>
    have HT2 := Hid.intro_ (show T = none by rw [HT.out]; rfl)
    go_wp2_with fail
    generalize hXX : (((w2.setCell ⟨w.heap.size, 0, none⟩ (.int .i64 0)).setCell ⟨w.heap.size, 1, none⟩ (.int .u64 0)).setCell ⟨w.heap.size, 2, none⟩ (.int .i64 0)).alloc (.cells #[.int .i64 x, .int .u64 y, .int .i64 z] 72) = X at *
    obtain ⟨y0, y1, y2, hw⟩ := hfin.out none (0, 0, 0) rfl HT2.out X hXX.symm
    have y0 : X.cell? ⟨w.heap.size, 0, none⟩ = some (.int .i64 0) := y0
    have y1 : X.cell? ⟨w.heap.size, 1, none⟩ = some (.int .u64 0) := y1
    have y2 : X.cell? ⟨w.heap.size, 2, none⟩ = some (.int .i64 0) := y2
    refine bodyPost_ret (v := .tuple #[.agg #[.int .i64 0, .int .u64 0, .int .i64 0], .int .i64 72]) (by simp [results, Tryz.results26, go_sem, y0, y1, y2]) rfl ⟨by rw [HT2.out]; rfl, hw⟩
  | true =>
    cases ok with
    | false =>
      have HT2 := Hid.intro_ (show T = none by rw [HT.out]; unfold toldE; rw [← HOK.out]; rfl)
      go_wp2_with fail
      generalize hXX : (((w2.setCell ⟨w.heap.size, 0, none⟩ (.int .i64 0)).setCell ⟨w.heap.size, 1, none⟩ (.int .u64 0)).setCell ⟨w.heap.size, 2, none⟩ (.int .i64 0)).alloc (.cells #[.int .i64 x, .int .u64 y, .int .i64 z] 72) = X at *
      obtain ⟨y0, y1, y2, hw⟩ := hfin.out none (0, 0, 0) rfl HT2.out X hXX.symm
      have y0 : X.cell? ⟨w.heap.size, 0, none⟩ = some (.int .i64 0) := y0
      have y1 : X.cell? ⟨w.heap.size, 1, none⟩ = some (.int .u64 0) := y1
      have y2 : X.cell? ⟨w.heap.size, 2, none⟩ = some (.int .i64 0) := y2
      refine bodyPost_ret (v := .tuple #[.agg #[.int .i64 0, .int .u64 0, .int .i64 0], .int .i64 72]) (by simp [results, Tryz.results26, go_sem, y0, y1, y2]) rfl ⟨by rw [HT2.out]; rfl, hw⟩
    | true =>
      obtain ⟨rfl, rfl, rfl⟩ := HXYZ.out rfl
      have HT2 := Hid.intro_ (show T = some (x, y, z) by rw [HT.out]; unfold toldE; rw [← HOK.out]; rfl)
      go_wp2_with fail
      generalize hXX : (((w2.setCell ⟨w.heap.size, 0, none⟩ (.int .i64 x)).setCell ⟨w.heap.size, 1, none⟩ (.int .u64 y)).setCell ⟨w.heap.size, 2, none⟩ (.int .i64 z)).alloc (.cells #[.int .i64 x, .int .u64 y, .int .i64 z] 72) = X at *
      obtain ⟨y0, y1, y2, hw⟩ := hfin.out (some (x, y, z)) (x, y, z) rfl HT2.out X hXX.symm
      have y0 : X.cell? ⟨w.heap.size, 0, none⟩ = some (.int .i64 x) := y0
      have y1 : X.cell? ⟨w.heap.size, 1, none⟩ = some (.int .u64 y) := y1
      have y2 : X.cell? ⟨w.heap.size, 2, none⟩ = some (.int .i64 z) := y2
      refine bodyPost_ret (v := .tuple #[.agg #[.int .i64 x, .int .u64 y, .int .i64 z], .int .i64 0]) (by simp [results, Tryz.results26, go_sem, y0, y1, y2]) rfl ⟨by rw [HT2.out]; rfl, hw⟩
inductive LookAns (c : Cx) (s : RSt) (name : ByteArray) : Option (Nat × Nat × Nat) → Int → Prop
  | bad (n : Int) (hn : openR s.D s.S c.K name 2 = (n, s.S)) (hz : ¬ n = 0) (h0 : 0 ≤ (s.D.readable name).1) (h1 : (s.D.readable name).1 ≤ 1099511627776) : LookAns c s name none n
  | kind (fs : List (ByteArray × AFile)) (kind : Nat) (L : List R4) (t : TapeOn c fs name kind L) (hc : Calm s.D c.block fs) (hne : kind ≠ 2) (hL : L ≠ []) (hcl : s.S.closed = false) (hh : 0 ≤ s.S.hand) (hf : (c.K : Int) ≤ s.S.limit - (s.S.hand + s.S.parts)) : LookAns c s name none 32
  | tape (fs : List (ByteArray × AFile)) (L : List R4) (t : TapeOn c fs name 2 L) (hc : Calm s.D c.block fs) (hcl : s.S.closed = false) (hh : 0 ≤ s.S.hand) (hf : (c.K : Int) ≤ s.S.limit - (s.S.hand + s.S.parts)) : LookAns c s name (endL L) (ansN (endL L))
theorem look_any {o : Option (Nat × Nat × Nat)} {n : Int} (h : RmAt c w G s) (ha : LookAns c s name o n) :
    Calls Tryz.prog 26 #[.pointer (some ⟨c.k, 0, none⟩), .string name] w fun e w' => e = .returned (.tuple #[ansV o, .int .i64 n]) ∧ WentTo c G 1 0 s w w' := by
  have h1 := h.nil ((Keep.refl Nil w).alloc (.cells #[.int .i64 0, .int .u64 0, .int .i64 0] 72))
  cases ha with
  | bad _ hn hz h0 h1' => exact look_bad n false h hz (last_bad n h1 hn hz h0 h1')
  | kind fs kind L t hc hne hL hcl hh hf => exact look_bad 32 false h (by decide) (last_kind h1 t hne hL hc (by decide) hcl hh hf)
  | tape fs L t hc hcl hh hf =>
    have hl := last_tape h1 t hc (by decide) hcl hh hf
    cases hr : L.reverse with
    | nil =>
      have hL : L = [] := by simpa using hr
      subst hL
      exact look_rec 0 0 0 0 false h (by decide) (by decide) (by decide) (by decide) hl
    | cons r l =>
      have hok : r.Ok := t.oks r (by have : r ∈ L.reverse := by rw [hr]; exact List.mem_cons_self ..
                                     exact List.mem_reverse.1 this)
      have e1 : lastV L = rcV r.a r.b r.c r.d := by unfold lastV; rw [hr]; rfl
      have e2 : (!L.isEmpty) = true := by cases L with
        | nil => simp at hr
        | cons _ _ => rfl
      have e3 : endL L = toldE true r.a r.b r.c r.d := by unfold endL toldE; rw [hr]; rfl
      rw [e1, e2] at hl
      rw [e3]
      exact look_rec r.a r.b r.c r.d true h hok.a hok.b hok.c hok.d hl
end
end Go.Proofs.YtadipinnbehhhaaGreatDoor
namespace Go.Proofs.YtadipinnbehhhaaGreatDoor
open Go.RowKit

theorem isN_prog (a b c d : Nat) (n : Int) (hn : n ≤ 65536) : isN a b c d n = (decide (0 ≤ pLv a) && decide (pLv a < n) && decide (d = 0) && !decide (b = c) && uN b (pLv a) n && uN c (pLv a) n) := by
  have hl := sL_lt a
  unfold isN
  cases hk : nOk a n
  · have : (decide (0 ≤ pLv a) && decide (pLv a < n)) = false := by
      unfold nOk at hk
      unfold pLv
      cases h1 : sK a
      · simp
      · cases h2 : sF a
        · rw [h1, h2] at hk
          simp at hk ⊢
          omega
        · simp; omega
    rw [this]
    simp
  · have e : pLv a = sL a := by
      unfold nOk at hk
      simp only [Bool.and_eq_true, Bool.not_eq_true', decide_eq_true_eq] at hk
      unfold pLv
      rw [if_pos hk.1.1, if_neg (by simp [hk.1.2])]
    have h3 : sL a < n := by
      unfold nOk at hk
      simp only [Bool.and_eq_true, decide_eq_true_eq] at hk
      exact hk.2
    rw [e, under_same b _ _ hl.1, under_same c _ _ hl.1, decide_eq_true hl.1, decide_eq_true h3]
    simp
theorem node_end {w Y : World} {a b c d : Nat} (hY : Y = ((w.alloc (.cells #[.int .u64 a, .int .u64 b, .int .u64 c, .int .u64 d] 111)).alloc (.cells #[.int .u64 0, .int .u64 0, .int .u64 0] 46)).alloc (.cells #[.int .u64 a, .int .u64 b, .int .u64 c] 46)) :
    Keep Nil w Y ∧ Blk Y (w.heap.size + 1) 46 #[.int .u64 0, .int .u64 0, .int .u64 0] := by
  rw [hY]
  exact ⟨(((Keep.refl Nil w).alloc _).alloc _).alloc _, (Blk.new_at _ _ _ (by simp)).alloc _⟩
theorem node_cells {w Y : World} {a b c d : Nat} (hY : Y = ((w.alloc (.cells #[.int .u64 a, .int .u64 b, .int .u64 c, .int .u64 d] 111)).alloc (.cells #[.int .u64 0, .int .u64 0, .int .u64 0] 46)).alloc (.cells #[.int .u64 a, .int .u64 b, .int .u64 c] 46)) :
    Y.cell? ⟨w.heap.size + 1 + 1, 0, none⟩ = some (.int .u64 a) ∧ Y.cell? ⟨w.heap.size + 1 + 1, 1, none⟩ = some (.int .u64 b) ∧ Y.cell? ⟨w.heap.size + 1 + 1, 2, none⟩ = some (.int .u64 c) ∧
      Y.frozen? ⟨w.heap.size + 1, 0, none⟩ = false ∧ Y.frozen? ⟨w.heap.size + 1, 1, none⟩ = false ∧ Y.frozen? ⟨w.heap.size + 1, 2, none⟩ = false ∧
      Y.cell? ⟨w.heap.size + 1, 0, none⟩ = some (.int .u64 0) ∧ Y.cell? ⟨w.heap.size + 1, 1, none⟩ = some (.int .u64 0) ∧ Y.cell? ⟨w.heap.size + 1, 2, none⟩ = some (.int .u64 0) := by
  have h2 := (node_end hY).2
  have h4 : Blk Y (w.heap.size + 1 + 1) 46 #[.int .u64 a, .int .u64 b, .int .u64 c] := by rw [hY]; exact Blk.new_at _ _ _ (by simp)
  exact ⟨h4.at_ 0, h4.at_ 1, h4.at_ 2, h2.fr 0, h2.fr 1, h2.fr 2, h2.at_ 0, h2.at_ 1, h2.at_ 2⟩
set_option maxRecDepth 100000 in
set_option maxHeartbeats 8000000 in
theorem nodeof_any (a b c d : Nat) (n : Int) (hn : n ≤ 65536) (ha : a < 18446744073709551616) (hb : b < 18446744073709551616) (hc : c < 18446744073709551616) (w : World) :
    Calls Tryz.prog 157 #[rcV a b c d, .int .i64 n] w fun e w' => ∃ x y z : Nat, e = .returned (.tuple #[ndV x y z, .bool (isN a b c d n)]) ∧ (isN a b c d n = true → x = a ∧ y = b ∧ z = c) ∧ Keep Nil w w' := by
  have HX := isN_prog a b c d n hn
  have hl := Hid.intro_ (level_any a ha)
  have hu := Hid.intro_ (under_any b (pLv a) n hb)
  have hu2 := Hid.intro_ (under_any c (pLv a) n hc)
  generalize isN a b c d n = X at *
  generalize uN b (pLv a) n = u1 at *
  generalize uN c (pLv a) n = u2 at *
  generalize pLv a = q at *
  clear ha hb hc hn
  unfold rcV
  by_cases h1 : q < 0
  · have HY := Hid.intro_ (show X = false by rw [HX, decide_eq_false (by omega : ¬ 0 ≤ q)]; simp)
    clear HX
    go_enter Tryz.func157, Tryz.ntmps157
    go_wp2_with (go_at_call 95; refine (hl.out _).mono ?_; rintro e w' ⟨rfl, rfl⟩)
    refine bodyPost_ret (v := .tuple #[.agg #[.int .u64 0, .int .u64 0, .int .u64 0], .bool false]) (by simp [results, Tryz.results157, go_sem]) rfl ⟨0, 0, 0, by rw [HY.out]; rfl, (fun h => by rw [HY.out] at h; cases h), (by repeat (first | exact Keep.refl _ _ | refine Keep.alloc ?_ _))⟩
  by_cases h2 : n ≤ q
  · have HY := Hid.intro_ (show X = false by rw [HX, decide_eq_false (by omega : ¬ q < n)]; simp)
    clear HX
    go_enter Tryz.func157, Tryz.ntmps157
    go_wp2_with (go_at_call 95; refine (hl.out _).mono ?_; rintro e w' ⟨rfl, rfl⟩)
    refine bodyPost_ret (v := .tuple #[.agg #[.int .u64 0, .int .u64 0, .int .u64 0], .bool false]) (by simp [results, Tryz.results157, go_sem]) rfl ⟨0, 0, 0, by rw [HY.out]; rfl, (fun h => by rw [HY.out] at h; cases h), (by repeat (first | exact Keep.refl _ _ | refine Keep.alloc ?_ _))⟩
  rw [decide_eq_true (by omega : 0 ≤ q), decide_eq_true (by omega : q < n), Bool.true_and, Bool.true_and] at HX
  by_cases h3 : d = 0
  · subst h3
    by_cases h4 : b = c
    · subst h4
      have HY := Hid.intro_ (show X = false by rw [HX]; simp)
      clear HX
      go_enter Tryz.func157, Tryz.ntmps157
      go_wp2_with (go_at_call 95; refine (hl.out _).mono ?_; rintro e w' ⟨rfl, rfl⟩)
      refine bodyPost_ret (v := .tuple #[.agg #[.int .u64 0, .int .u64 0, .int .u64 0], .bool false]) (by simp [results, Tryz.results157, go_sem]) rfl ⟨0, 0, 0, by rw [HY.out]; rfl, (fun h => by rw [HY.out] at h; cases h), (by repeat (first | exact Keep.refl _ _ | refine Keep.alloc ?_ _))⟩
    · have q4 : (b == c) = false := by simpa using h4
      have q4' : ((b : Int) == (c : Int)) = false := by simp; omega
      have HY := Hid.intro_ (show X = (u1 && u2) by rw [HX, decide_eq_false h4]; simp)
      clear HX h4
      obtain ⟨Y, hY⟩ : ∃ Y, Y = ((w.alloc (.cells #[.int .u64 a, .int .u64 b, .int .u64 c, .int .u64 ((0 : Nat) : Int)] 111)).alloc (.cells #[.int .u64 0, .int .u64 0, .int .u64 0] 46)).alloc (.cells #[.int .u64 a, .int .u64 b, .int .u64 c] 46) := ⟨_, rfl⟩
      have HK := Hid.intro_ (node_end hY)
      obtain ⟨y0, y1, y2, g0, g1, g2, z0, z1, z2⟩ := node_cells hY
      rw [show ((0 : Nat) : Int) = 0 from rfl] at hY
      cases u1
      · go_enter Tryz.func157, Tryz.ntmps157
        go_wp2_with (go_at_call 95; refine (hl.out _).mono ?_; rintro e w' ⟨rfl, rfl⟩)
        rw [← hY]
        clear hY
        refine wp_region_held_drew (S := (fun w' => w'.cell? ⟨w.heap.size + 1 + 1, 0, none⟩ = some (.int .u64 a) ∧ w'.cell? ⟨w.heap.size + 1 + 1, 1, none⟩ = some (.int .u64 b) ∧ w'.cell? ⟨w.heap.size + 1 + 1, 2, none⟩ = some (.int .u64 c))) (by kernel_rfl) ?_ (fun hHeld => ?_)
        · exact ⟨y0, y1, y2⟩
        refine tk8 (i := 0) (v := ?_) (Or.inl ⟨by kernel_rfl, ?_⟩) ?_; rotate_left; (intro w k; (try dsimp only at k); go_simp; try with_reducible rfl); (try simp only [Act.put, put9]); refine tk8 (i := 1) (v := ?_) (Or.inl ⟨by kernel_rfl, ?_⟩) ?_; rotate_left; (intro w k; (try dsimp only at k); go_simp; try with_reducible rfl); (try simp only [Act.put, put9]); refine tk8 (i := 2) (v := ?_) (Or.inl ⟨by kernel_rfl, ?_⟩) ?_; rotate_left; (intro w k; (try dsimp only at k); go_simp; try with_reducible rfl); (try simp only [Act.put, put9]); refine tk8 (i := 3) (v := ?_) (Or.inl ⟨by kernel_rfl, ?_⟩) ?_; rotate_left; (intro w k; (try dsimp only at k); go_simp; try with_reducible rfl); (try simp only [Act.put, put9]); refine tk8 (i := 4) (v := ?_) (Or.inl ⟨by kernel_rfl, ?_⟩) ?_; rotate_left; (intro w k; (try dsimp only at k); go_simp; try with_reducible rfl); try simp only [Act.put, put9]
        refine wpAnyH_ready (rs := [5]) (by kernel_rfl) (by simp) ?_
        refine AllReadyH.cons (by simp only [get9]; rfl) (fun K hK => ?_) AllReadyH.nil
        go_simp
        go_at_call 137
        with_reducible refine (hu.out _).mono ?_
        rintro e w' ⟨rfl, hw⟩
        obtain rfl := hw.symm
        refine hK.out _ _ ?_ (fun hHeld => ?_)
        · exact (by first | exact hHeld | exact ⟨y0, y1, y2⟩ | go_keep)
        clear hK K
        (try simp only [Act.put, put9]); refine tk8 (i := 6) (v := ?_) (Or.inl ⟨by kernel_rfl, ?_⟩) ?_; rotate_left; (intro w k; (try dsimp only at k); go_simp; try with_reducible rfl); (try simp only [Act.put, put9]); refine tk8 (i := 7) (Or.inr ⟨by kernel_rfl, rfl⟩) ?_; (try simp only [Act.put, put9]); refine tk8 (i := 8) (Or.inr ⟨by kernel_rfl, rfl⟩) ?_; (try simp only [Act.put, put9]); refine tk8 (i := 9) (Or.inr ⟨by kernel_rfl, rfl⟩) ?_; (try simp only [Act.put, put9]); refine tk8 (i := 10) (Or.inr ⟨by kernel_rfl, rfl⟩) ?_; (try simp only [Act.put, put9]); refine tk8 (i := 11) (Or.inr ⟨by kernel_rfl, rfl⟩) ?_; (try simp only [Act.put, put9]); refine tk8 (i := 12) (v := ?_) (Or.inl ⟨by kernel_rfl, ?_⟩) ?_; rotate_left; (intro w k; (try dsimp only at k); go_simp; try with_reducible rfl); try simp only [Act.put, put9]
        refine wpAnyH_ready (rs := [13]) (by kernel_rfl) (by simp) ?_
        refine AllReadyH.cons (by simp only [get9]; rfl) (fun K hK => ?_) AllReadyH.nil
        go_simp
        refine hK.out _ _ ?_ (fun hHeld => ?_)
        · go_keep
        clear hK K
        (try simp only [Act.put, put9]); refine tk8 (i := 14) (v := ?_) (Or.inl ⟨by kernel_rfl, ?_⟩) ?_; rotate_left; (intro w k; (try dsimp only at k); go_simp; try with_reducible rfl); try simp only [Act.put, put9]
        refine wpAnyH_done (by kernel_rfl) ?_ _
        all_goals
          go_wp2_with fail
          refine bodyPost_ret (v := .tuple #[.agg #[.int .u64 a, .int .u64 b, .int .u64 c], .bool false]) (by simp [results, Tryz.results157, go_sem, z0, z1, z2]) rfl ⟨a, b, c, by rw [HY.out]; rfl, (fun _ => ⟨rfl, rfl, rfl⟩), info_keep HK.out.1 _ _ _⟩
      · go_enter Tryz.func157, Tryz.ntmps157
        go_wp2_with (go_at_call 95; refine (hl.out _).mono ?_; rintro e w' ⟨rfl, rfl⟩)
        rw [← hY]
        clear hY
        (first | (go_region_held3 (fun w' => w'.cell? ⟨w.heap.size + 1 + 1, 0, none⟩ = some (.int .u64 a) ∧ w'.cell? ⟨w.heap.size + 1 + 1, 1, none⟩ = some (.int .u64 b) ∧ w'.cell? ⟨w.heap.size + 1 + 1, 2, none⟩ = some (.int .u64 c)) (first | exact ⟨y0, y1, y2⟩ | go_keep)
          (first
            | (go_at_call 137; with_reducible refine (hu.out _).mono ?_; rintro e w' ⟨rfl, hw⟩; obtain rfl := hw.symm)
            | (go_at_call 137; with_reducible refine (hu2.out _).mono ?_; rintro e w' ⟨rfl, hw⟩; obtain rfl := hw.symm))) | fail)
        all_goals
          go_wp2_with fail
          refine bodyPost_ret (v := .tuple #[.agg #[.int .u64 a, .int .u64 b, .int .u64 c], .bool u2]) (by simp [results, Tryz.results157, go_sem, z0, z1, z2]) rfl ⟨a, b, c, by rw [HY.out]; rfl, (fun _ => ⟨rfl, rfl, rfl⟩), info_keep HK.out.1 _ _ _⟩
  · have q3 : ((d : Int) == 0) = false := by simp; omega
    have q3' : ((d : Int) != 0) = true := by simp; omega
    have HY := Hid.intro_ (show X = false by rw [HX, decide_eq_false h3]; simp)
    clear HX h3
    go_enter Tryz.func157, Tryz.ntmps157
    go_wp2_with (go_at_call 95; refine (hl.out _).mono ?_; rintro e w' ⟨rfl, rfl⟩)
    refine bodyPost_ret (v := .tuple #[.agg #[.int .u64 0, .int .u64 0, .int .u64 0], .bool false]) (by simp [results, Tryz.results157, go_sem]) rfl ⟨0, 0, 0, by rw [HY.out]; rfl, (fun h => by rw [HY.out] at h; cases h), (by repeat (first | exact Keep.refl _ _ | refine Keep.alloc ?_ _))⟩
def flw (t tl th s sl sh : Nat) : Bool := if sL t = sL s then decide (sI t = sI s + 1) && bhd tl th sl sh else decide (sL t < sL s) && decide (sI t = 0)
theorem sIn_lv {p : Nat} (h : sIn p = true) : pLv p = sL p ∧ p < 72057594037927936 ∧ sL p = ((p / 1099511627776 : Nat) : Int) ∧ sI p = ((p % 1099511627776 : Nat) : Int) := by
  have h2 := h
  unfold sIn at h2
  simp only [Bool.and_eq_true, Bool.not_eq_true', decide_eq_true_eq] at h2
  refine ⟨?_, by omega, by unfold sL; rw [if_pos h], by unfold sI; rw [if_pos h]⟩
  unfold pLv sK
  rw [if_pos (by simp [h2.2]), if_neg (by simp [h2.1])]
theorem isN_in {a b c d : Nat} {n : Int} (h : isN a b c d n = true) : sIn a = true := by
  unfold isN nOk at h
  simp only [Bool.and_eq_true, Bool.not_eq_true', decide_eq_true_eq] at h
  obtain ⟨h1, h2⟩ := h.1.1.1.1.1
  unfold sK at h1
  rw [h2, Bool.false_or] at h1
  unfold sIn
  rw [h2, h1]
  rfl
set_option maxRecDepth 100000 in
set_option maxHeartbeats 8000000 in
theorem follows_any (t tl th s sl sh : Nat) (ht : sIn t = true) (hs : sIn s = true) (w : World) :
    Calls Tryz.prog 323 #[ndV t tl th, ndV s sl sh] w fun e w' => e = .returned (.bool (flw t tl th s sl sh)) ∧ Keep Nil w w' := by
  obtain ⟨t1, t2, t3, t4⟩ := sIn_lv ht
  obtain ⟨s1, s2, s3, s4⟩ := sIn_lv hs
  have hlt := level_any t (by omega)
  have hls := level_any s (by omega)
  rw [t1] at hlt
  rw [s1] at hls
  have HT := Hid.intro_ hlt
  have HS := Hid.intro_ hls
  have HB := Hid.intro_ (fun W => behind_any t tl th s sl sh W)
  have HF := Hid.intro_ (fun W => first_any t tl th (by omega) W)
  have ws : IntKind.u64.wrap ((s : Int) + 1) = (s : Int) + 1 := IntWalk.u64_in _ (by omega)
  have hflw : flw t tl th s sl sh = if sL t = sL s then decide (sI t = sI s + 1) && bhd tl th sl sh else decide (sL t < sL s) && decide (sI t = 0) := rfl
  generalize flw t tl th s sl sh = X at *
  have hone : sL t = sL s → (sI t = sI s + 1 ↔ (t : Int) = (s : Int) + 1) := fun e => by omega
  generalize sL t = a at *
  generalize sL s = b at *
  generalize sI t = i at *
  generalize sI s = j at *
  generalize bhd tl th sl sh = B at *
  clear hlt hls ht hs t1 s1 t2 s2 t3 t4 s3 s4
  unfold ndV
  obtain ⟨Y, hY⟩ : ∃ Y, Y = (w.alloc (.cells #[.int .u64 t, .int .u64 tl, .int .u64 th] 46)).alloc (.cells #[.int .u64 s, .int .u64 sl, .int .u64 sh] 46) := ⟨_, rfl⟩
  have kY : Keep Nil w Y := by rw [hY]; exact ((Keep.refl Nil w).alloc _).alloc _
  have hbt : Blk Y w.heap.size 46 #[.int .u64 t, .int .u64 tl, .int .u64 th] := by rw [hY]; exact (Blk.new w _ _).alloc _
  have hbs : Blk Y (w.heap.size + 1) 46 #[.int .u64 s, .int .u64 sl, .int .u64 sh] := by rw [hY]; exact Blk.new_at _ _ _ (by simp)
  have HYK := Hid.intro_ kY
  go_enter Tryz.func323, Tryz.ntmps323
  go_wp2_with fail
  rw [← hY]
  clear hY kY
  have t0 : Y.cell? ⟨w.heap.size, 0, none⟩ = some (.int .u64 t) := hbt.at_ 0
  have s0 : Y.cell? ⟨w.heap.size + 1, 0, none⟩ = some (.int .u64 s) := hbs.at_ 0
  have HBT := Hid.intro_ hbt
  have HBS := Hid.intro_ hbs
  clear hbt hbs
  go_quiet ((first
    | (go_at_call 95; with_reducible exact Calls.quiet_of_same (HT.out _))
    | (go_at_call 95; with_reducible exact Calls.quiet_of_same (HS.out _))))
  obtain ⟨W, kW, hW⟩ : ∃ W, Keep Nil Y W ∧ W = Y.drewN nq := ⟨_, (Keep.refl Nil Y).drewN _, rfl⟩
  rw [← hW]
  clear t0 s0 hW
  have hbt := HBT.out.keep kW (fun h => h)
  have hbs := HBS.out.keep kW (fun h => h)
  have t0 : W.cell? ⟨w.heap.size, 0, none⟩ = some (.int .u64 t) := hbt.at_ 0
  have t1 : W.cell? ⟨w.heap.size, 1, none⟩ = some (.int .u64 tl) := hbt.at_ 1
  have t2 : W.cell? ⟨w.heap.size, 2, none⟩ = some (.int .u64 th) := hbt.at_ 2
  have s0 : W.cell? ⟨w.heap.size + 1, 0, none⟩ = some (.int .u64 s) := hbs.at_ 0
  have s1 : W.cell? ⟨w.heap.size + 1, 1, none⟩ = some (.int .u64 sl) := hbs.at_ 1
  have s2 : W.cell? ⟨w.heap.size + 1, 2, none⟩ = some (.int .u64 sh) := hbs.at_ 2
  have HKW := Hid.intro_ (HYK.out.then_ kW)
  clear hbt hbs kW
  by_cases h1 : a = b
  · subst h1
    rw [if_pos rfl] at hflw
    have hone := hone rfl
    by_cases h2 : i = j + 1
    · have q2 : ((t : Int) == (s : Int) + 1) = true := by simpa using hone.1 h2
      rw [decide_eq_true h2, Bool.true_and] at hflw
      have HX := Hid.intro_ hflw
      clear hflw hone h2
      go_wp2_with (go_at_call 138; refine (HB.out _).mono ?_; rintro e w' ⟨rfl, hk⟩)
      go_ret
      exact ⟨by rw [HX.out]; rfl, HKW.out.then_ hk⟩
    · have q2 : ((t : Int) == (s : Int) + 1) = false := by
        have : ¬ (t : Int) = (s : Int) + 1 := fun e => h2 (hone.2 e)
        simpa using this
      rw [decide_eq_false h2, Bool.false_and] at hflw
      have HX := Hid.intro_ hflw
      clear hflw hone h2
      go_wp2_with fail
      go_ret
      exact ⟨by rw [HX.out]; rfl, HKW.out⟩
  · have q1 : (a == b) = false := by simpa using h1
    rw [if_neg h1] at hflw
    by_cases h2 : a < b
    · rw [decide_eq_true h2, Bool.true_and] at hflw
      have HX := Hid.intro_ hflw
      clear hflw hone h1
      go_wp2_with fail
      (first | (go_region_held3 (fun w' => w'.cell? ⟨w.heap.size, 0, none⟩ = some (.int .u64 t) ∧ w'.cell? ⟨w.heap.size, 1, none⟩ = some (.int .u64 tl) ∧ w'.cell? ⟨w.heap.size, 2, none⟩ = some (.int .u64 th) ∧ w'.cell? ⟨w.heap.size + 1, 0, none⟩ = some (.int .u64 s))
        (first | exact ⟨t0, t1, t2, s0⟩ | exact hS2.out | go_keep)
        (first
          | (go_at_call 95; with_reducible refine (HT.out _).mono ?_; rintro e w' ⟨rfl, hw⟩; obtain rfl := hw.symm)
          | (go_at_call 95; with_reducible refine (HS.out _).mono ?_; rintro e w' ⟨rfl, hw⟩; obtain rfl := hw.symm)
          | (go_at_call 134; refine (HF.out _).mono ?_; rintro e w2 ⟨rfl, hk⟩
             have kz := (Keep.refl Nil W).drew.then_ hk
             have hS2 := Hid.intro_ (And.intro (cell_keep t0 kz (fun h => h)) (And.intro (cell_keep t1 kz (fun h => h)) (And.intro (cell_keep t2 kz (fun h => h)) (cell_keep s0 kz (fun h => h)))))
             have KZ := Hid.intro_ kz
             clear hk kz))) | fail)
      all_goals
        go_wp2_with fail
        go_ret
        exact ⟨by rw [HX.out]; rfl, HKW.out.then_ KZ.out⟩
    · have q2 : decide (a < b) = false := decide_eq_false h2
      rw [decide_eq_false h2, Bool.false_and] at hflw
      have HX := Hid.intro_ hflw
      clear hflw hone h1
      go_wp2_with fail
      go_quiet ((first
        | (go_at_call 95; with_reducible exact Calls.quiet_of_same (HT.out _))
        | (go_at_call 95; with_reducible exact Calls.quiet_of_same (HS.out _))))
      go_wp2_with fail
      go_ret
      exact ⟨by rw [HX.out]; rfl, HKW.out.drewN _⟩
set_option maxRecDepth 100000 in
set_option maxHeartbeats 2000000 in
theorem rfollows_any (t tl th s sl sh : Nat) (ht : t < 18446744073709551616) (hs : s < 18446744073709551616) (w : World) :
    Calls Tryz.prog 83 #[ndV t tl th, ndV s sl sh] w fun e w' => e = .returned (.bool (flw t tl th s sl sh)) ∧ Keep Nil w w' := by
  have HT := Hid.intro_ (rsplit_t t ht)
  have HS := Hid.intro_ (rsplit_t s hs)
  have HB := Hid.intro_ (fun W => rbehind_any t tl th s sl sh W)
  have hi : sI s < 1099511627776 ∧ 0 ≤ sI s := by unfold sI; split <;> omega
  have hflw : flw t tl th s sl sh = if sL t = sL s then decide (sI t = sI s + 1) && bhd tl th sl sh else decide (sL t < sL s) && decide (sI t = 0) := rfl
  generalize flw t tl th s sl sh = X at *
  generalize sL t = a at *
  generalize sL s = b at *
  generalize sI t = i at *
  generalize sI s = j at *
  generalize bhd tl th sl sh = B at *
  have ws : IntKind.i64.wrap (j + 1) = j + 1 := IntWalk.i64_in _ (by omega)
  clear ht hs
  unfold ndV
  by_cases h1 : a = b
  · subst h1
    rw [if_pos rfl] at hflw
    by_cases h2 : i = j + 1
    · have q2 : (i == j + 1) = true := by simpa using h2
      rw [decide_eq_true h2, Bool.true_and] at hflw
      have HX := Hid.intro_ hflw
      subst h2
      clear hflw
      go_enter Tryz.func83, Tryz.ntmps83
      go_wp2_with (first
        | (go_at_call 82; with_reducible refine (HT.out _).mono ?_; rintro e w' ⟨rfl, rfl⟩)
        | (go_at_call 82; with_reducible refine (HS.out _).mono ?_; rintro e w' ⟨rfl, rfl⟩)
        | (go_at_call 142; refine (HB.out _).mono ?_; rintro e w' ⟨rfl, hk⟩))
      go_ret
      exact ⟨by rw [HX.out]; rfl, (((Keep.refl Nil w).alloc _).alloc _).then_ hk⟩
    · have q2 : (i == j + 1) = false := by simpa using h2
      rw [decide_eq_false h2, Bool.false_and] at hflw
      have HX := Hid.intro_ hflw
      clear hflw h2
      go_enter Tryz.func83, Tryz.ntmps83
      go_wp2_with (first
        | (go_at_call 82; with_reducible refine (HT.out _).mono ?_; rintro e w' ⟨rfl, rfl⟩)
        | (go_at_call 82; with_reducible refine (HS.out _).mono ?_; rintro e w' ⟨rfl, rfl⟩)
        | (go_at_call 142; refine (HB.out _).mono ?_; rintro e w' ⟨rfl, hk⟩))
      go_ret
      exact ⟨by rw [HX.out]; rfl, ((Keep.refl Nil w).alloc _).alloc _⟩
  · have q1 : (a == b) = false := by simpa using h1
    have q1' : (b == a) = false := by simp; omega
    rw [if_neg h1] at hflw
    by_cases h2 : a < b
    · rw [decide_eq_true h2, Bool.true_and] at hflw
      have HX := Hid.intro_ (show X = (i == 0) from hflw)
      clear hflw h1
      go_enter Tryz.func83, Tryz.ntmps83
      go_wp2_with (first
        | (go_at_call 82; with_reducible refine (HT.out _).mono ?_; rintro e w' ⟨rfl, rfl⟩)
        | (go_at_call 82; with_reducible refine (HS.out _).mono ?_; rintro e w' ⟨rfl, rfl⟩))
      go_ret
      exact ⟨by rw [HX.out]; rfl, ((Keep.refl Nil w).alloc _).alloc _⟩
    · have q2 : decide (a < b) = false := decide_eq_false h2
      rw [decide_eq_false h2, Bool.false_and] at hflw
      have HX := Hid.intro_ hflw
      clear hflw h1 h2
      go_enter Tryz.func83, Tryz.ntmps83
      go_wp2_with (first
        | (go_at_call 82; with_reducible refine (HT.out _).mono ?_; rintro e w' ⟨rfl, rfl⟩)
        | (go_at_call 82; with_reducible refine (HS.out _).mono ?_; rintro e w' ⟨rfl, rfl⟩))
      go_ret
      exact ⟨by rw [HX.out]; rfl, ((Keep.refl Nil w).alloc _).alloc _⟩
end Go.Proofs.YtadipinnbehhhaaGreatDoor
namespace Go.Proofs.YtadipinnbehhhaaGreatDoor
open Go.RowKit

structure CuSt where
  up : Bool
  vars : Nat
  root : Nat
  nodes : Nat
  given : Nat
  last : N3
  dead : Int
  done : Bool
def wayV (up : Bool) : Value := .iface (if up then 174 else 175) (.agg #[])
def cuCells (b : Nat) (y : CuSt) : Array Value :=
  #[.pointer (some ⟨b, 0, none⟩), wayV y.up, .int .i64 y.vars, .int .u64 y.root, .int .i64 y.nodes, .int .i64 y.given, .int .u64 y.last.self, .int .u64 y.last.low, .int .u64 y.last.high, .int .i64 y.dead, .bool y.done]
structure CurAt (c : Cx) (w : World) (cb b : Nat) (G : Nat → Prop) (s : RSt) (x : RdSt) (y : CuSt) : Prop where mk ::
  out : ∃ G0, G = (fun z => G0 z ∨ z = cb) ∧ RdrAt c w b G0 s x ∧ Off c.E G0 cb
  blk : Blk w cb 195 (cuCells b y)
def CurTo (c : Cx) (cb b : Nat) (G : Nat → Prop) (s' : RSt) (x' : RdSt) (y' : CuSt) (w w' : World) : Prop := ∃ G', CurAt c w' cb b G' s' x' y' ∧ Stp w G w' G'
section
variable {c : Cx} {w w' w2 w0 : World} {cb b : Nat} {G G' : Nat → Prop} {s s' s2 : RSt} {x x' x2 : RdSt} {y y' y2 : CuSt}
theorem CurAt.nil (h : CurAt c w cb b G s x y) (k : Keep Nil w w') : CurAt c w' cb b G s x y := by
  obtain ⟨G0, rfl, hw, nb⟩ := h.out
  exact ⟨⟨G0, rfl, hw.nil k, nb⟩, h.blk.keep k (fun h => h)⟩
theorem CurAt.lt (h : CurAt c w cb b G s x y) (z : Nat) (hz : G z) : z < w.heap.size := by
  obtain ⟨G0, rfl, hw, nb⟩ := h.out
  rcases hz with hz | hz
  · exact hw.lt z hz
  · rw [hz]; exact h.blk.lt
theorem CurAt.via (h : CurAt c w cb b G s x y) : ∃ G0, RdrAt c w b G0 s x ∧ (∀ z, G0 z → G z) ∧ ∀ s' x' w', RdrTo c b G0 s' x' w w' → CurTo c cb b G s' x' y w w' := by
  obtain ⟨G0, rfl, hw, nb⟩ := h.out
  refine ⟨G0, hw, fun z hz => .inl hz, fun s' x' w' t => ?_⟩
  obtain ⟨G1, h1, s1⟩ := t
  exact ⟨_, ⟨⟨G1, rfl, h1, nb.step h.blk.lt s1⟩, h.blk.keep s1.keep nb.1⟩, s1.part (fun z => z = cb)⟩
theorem CurAt.recell (h : CurAt c w cb b G s x y) (k : Keep (fun z => z = cb) w w') (hb : Blk w' cb 195 (cuCells b y')) : CurTo c cb b G s x y' w w' := by
  obtain ⟨G0, rfl, hw, nb⟩ := h.out
  exact ⟨_, ⟨⟨G0, rfl, hw.keep k (fun z e => by rw [show z = cb from e]; exact nb), nb⟩, hb⟩, ⟨k.mono (fun z _ e => .inr e), fun z hz => .inl hz⟩⟩
theorem CurAt.rm (h : CurAt c w cb b G s x y) : ∃ G0, RmAt c w G0 s ∧ (∀ z, G0 z → G z) ∧ ∀ s' w', RmTo c G0 s' w w' → CurTo c cb b G s' x y w w' := by
  obtain ⟨G1, h1, g1, v1⟩ := h.via
  obtain ⟨G0, h0, g0, v0⟩ := h1.via
  exact ⟨G0, h0, fun z hz => g1 z (g0 z hz), fun s' w' t => v1 _ _ _ (v0 _ _ t)⟩
theorem CurTo.to_rm (h : CurTo c cb b G s' x' y' w w') : RmTo c G s' w w' := by
  obtain ⟨G1, h1, s1⟩ := h
  obtain ⟨G0, hr, hs, _⟩ := h1.rm
  exact ⟨G0, hr, s1.less hs⟩
theorem CurAt.env (h : CurAt c w cb b G s x y) : Envs c.E w G := by
  obtain ⟨G0, rfl, hw, nb⟩ := h.out
  have e := hw.env
  exact ⟨⟨e.errs.errs, fun i hi hf => hf.elim (e.errs.nv i hi) (nb.2.1 i hi).1, fun i hi hf => hf.elim (e.errs.nb i hi) (nb.2.1 i hi).2⟩, e.halves, e.magic, fun hf => hf.elim e.nh (fun q => nb.2.2.1 q.symm), fun hf => hf.elim e.nm (fun q => nb.2.2.2 q.symm)⟩
theorem CurAt.keep {H : Nat → Prop} (h : CurAt c w cb b G s x y) (k : Keep H w w') (hH : ∀ z, H z → Off c.E G z) : CurAt c w' cb b G s x y := by
  obtain ⟨G0, rfl, hw, nb⟩ := h.out
  refine ⟨⟨G0, rfl, hw.keep k (fun z hz => ⟨fun hg => (hH z hz).1 (.inl hg), (hH z hz).2⟩), nb⟩, h.blk.keep k (fun hf => (hH _ hf).1 (.inr rfl))⟩
end

def fitsB (up : Bool) (root nodes given : Nat) (last n : N3) : Bool :=
  (if given = 0 then (if up then sI n.self == 0 else decide (n.self = root)) else (if up then flw n.self n.low n.high last.self last.low last.high else flw last.self last.low last.high n.self n.low n.high)) &&
  (decide (given + 1 < nodes) || (if up then decide (n.self = root) else sI n.self == 0))
def R4.n3 (r : R4) : N3 := ⟨r.a, r.b, r.c⟩
def R4.isN (r : R4) (vars : Nat) : Bool := Go.Proofs.YtadipinnbehhhaaGreatDoor.isN r.a r.b r.c r.d vars
def walkN (up : Bool) (vars root nodes : Nat) : List R4 → Nat → N3 → List N3 × Bool
  | [], _, _ => ([], false)
  | r :: rs, given, last => if r.isN vars && fitsB up root nodes given last r.n3 then (r.n3 :: (walkN up vars root nodes rs (given + 1) r.n3).1, (walkN up vars root nodes rs (given + 1) r.n3).2) else ([], true)
end Go.Proofs.YtadipinnbehhhaaGreatDoor
namespace Go.Proofs.YtadipinnbehhhaaGreatDoor
open Go.RowKit

section
variable {c : Cx} {w w' : World} {b : Nat} {G : Nat → Prop} {s s' : RSt} {fs : List (ByteArray × AFile)} {name : ByteArray} {kind : Nat} {L rem : List R4} {back : Bool}

structure OpR (c : Cx) (name : ByteArray) (kind : Nat) (L : List R4) (back : Bool) (b : Nat) (G : Nat → Prop) (s : RSt) (rem : List R4) (J : Nat) (w w' : World) : Prop where mk ::
  out : ∃ j q x s', j ≤ J ∧ q + j ≤ nblk c.K L.length ∧ Went j c.K s s' ∧ RdLive c name kind L back x q rem ∧ RdrTo c b G s' x w w'
theorem read_tape (h : RmAt c w G s) (t : TapeOn c fs name kind L) (hc : Calm s.D c.block fs) (hk : kind ≤ 5) (hcl : s.S.closed = false) (hf : (c.K : Int) ≤ s.S.limit - (s.S.hand + s.S.parts)) :
    Calls Tryz.prog 101 #[.pointer (some ⟨c.k, 0, none⟩), .string name, .int .i64 kind] w fun e w' => ∃ b, e = .returned (.tuple #[.pointer (some ⟨b, 0, none⟩), .int .i64 0]) ∧ w.heap.size ≤ b ∧ OpR c name kind L false b G s L 0 w w' := by
  have hread := t.readable hc
  have hbl := h.blocks_len kind L
  have h40 := nblk_le40 h.posK t.le
  refine (tread_rm c w G s name kind h (by rw [hread]; omega) (by rw [hread, hbl]; omega)).mono fun e w1 hp => ?_
  obtain ⟨b, he, hb, hto⟩ := hp.tape t hc ⟨t.kind.1, hk⟩ hcl hf
  exact ⟨b, he, hb, ⟨0, _, _, _, Nat.le_refl _, by omega, Went.take s hcl hf, RdLive.fresh (c := c) name kind L false (blocksB kind L c.block).length h.posK hbl, hto⟩⟩
theorem back_tape (h : RmAt c w G s) (t : TapeOn c fs name kind L) (hc : Calm s.D c.block fs) (hk : kind ≤ 5) (hcl : s.S.closed = false) (hf : (c.K : Int) ≤ s.S.limit - (s.S.hand + s.S.parts)) :
    Calls Tryz.prog 154 #[.pointer (some ⟨c.k, 0, none⟩), .string name, .int .i64 kind] w fun e w' => ∃ b, e = .returned (.tuple #[.pointer (some ⟨b, 0, none⟩), .int .i64 0]) ∧ w.heap.size ≤ b ∧ OpR c name kind L true b G s L.reverse 0 w w' := by
  have hread := t.readable hc
  have hbl := h.blocks_len kind L
  have h40 := nblk_le40 h.posK t.le
  refine (tback_rm c w G s name kind h (by rw [hread]; omega) (by rw [hread, hbl]; omega)).mono fun e w1 hp => ?_
  obtain ⟨b, he, hb, hto⟩ := hp.tape t hc ⟨t.kind.1, hk⟩ hcl hf
  exact ⟨b, he, hb, ⟨0, _, _, _, Nat.le_refl _, by omega, Went.take s hcl hf, RdLive.fresh (c := c) name kind L true (blocksB kind L c.block).length h.posK hbl, hto⟩⟩
theorem OpR.from_nil {w0 : World} {J : Nat} (h : OpR c name kind L back b G s rem J w w') (k : Keep Nil w0 w) : OpR c name kind L back b G s rem J w0 w' := by
  obtain ⟨j, q, x, s', h1, h2, h3, h4, h5⟩ := h.out
  exact ⟨j, q, x, s', h1, h2, h3, h4, h5.from_nil k⟩
set_option maxRecDepth 100000 in
set_option maxHeartbeats 1000000 in
theorem upopen_tape (h : RmAt c w G s) (t : TapeOn c fs name 2 L) (hc : Calm s.D c.block fs) (hcl : s.S.closed = false) (hf : (c.K : Int) ≤ s.S.limit - (s.S.hand + s.S.parts)) :
    Calls Tryz.prog 322 #[.agg #[], .pointer (some ⟨c.k, 0, none⟩), .string name] w fun e w' => ∃ b, e = .returned (.tuple #[.pointer (some ⟨b, 0, none⟩), .int .i64 0]) ∧ w.heap.size ≤ b ∧ OpR c name 2 L false b G s L 1 w w' := by
  have ka : Keep Nil w (w.alloc (.cells #[] 174)) := (Keep.refl Nil w).alloc _
  have HR := Hid.intro_ (read_tape (h.nil ka) t hc (by decide) hcl hf)
  clear h t hc hcl hf
  go_enter Tryz.func322, Tryz.ntmps322
  go_wp2_with fail
  refine HR.out.mono ?_
  rintro e w1 ⟨b, rfl, hb, ho⟩
  go_wp2_with fail
  go_ret2
  obtain ⟨j, q, x, s', h1, h2, h3, h4, h5⟩ := (ho.from_nil ka).out
  exact ⟨b, rfl, by have := ka.size; omega, ⟨j, q, x, s', by omega, h2, h3, h4, h5⟩⟩
set_option maxRecDepth 100000 in
set_option maxHeartbeats 1000000 in
theorem downopen_tape {r : R4} {rest : List R4} (h : RmAt c w G s) (t : TapeOn c fs name 2 L) (hc : Calm s.D c.block fs) (hcl : s.S.closed = false) (hf : (c.K : Int) ≤ s.S.limit - (s.S.hand + s.S.parts)) (hr : L.reverse = r :: rest) :
    Calls Tryz.prog 92 #[.agg #[], .pointer (some ⟨c.k, 0, none⟩), .string name] w fun e w' => ∃ b, e = .returned (.tuple #[.pointer (some ⟨b, 0, none⟩), .int .i64 0]) ∧ w.heap.size ≤ b ∧ OpR c name 2 L true b G s rest 1 w w' := by
  have ka : Keep Nil w (w.alloc (.cells #[] 175)) := (Keep.refl Nil w).alloc _
  have HR := Hid.intro_ (back_tape (h.nil ka) t hc (by decide) hcl hf)
  have HT := Hid.intro_ t
  have HC := Hid.intro_ hc
  have HRR := Hid.intro_ hr
  clear h t hc hcl hf hr
  go_enter Tryz.func92, Tryz.ntmps92
  go_wp2_with fail
  refine HR.out.mono ?_
  rintro e w1 ⟨b, rfl, hb, ho⟩
  obtain ⟨j, q, x, s', h1, h2, h3, h4, G1, h5, s5⟩ := ho.out
  have HN := Hid.intro_ (next_live h5 h4 HT.out (h3.calm HC.out) HRR.out)
  have S5 := Hid.intro_ s5
  have H3 := Hid.intro_ h3
  clear ho h5 s5 h4 h3
  unfold R4.val at *
  go_wp2_with fail
  refine HN.out.mono ?_
  rintro e w2 ⟨rfl, hq⟩
  obtain ⟨j2, q2, x2, g1, g2, g3, G2, g4, s4⟩ := hq.out
  have HQ := Hid.intro_ hq
  have S4 := Hid.intro_ s4
  have G4 := Hid.intro_ g4
  have G3 := Hid.intro_ g3
  clear hq s4 g4 g3
  go_wp2_with fail
  go_ret2
  refine ⟨b, rfl, by have := ka.size; omega, ⟨j2 + j, q2, x2, { s' with D := s'.D.readsN j2 }, by omega, by omega, (H3.out.trans (⟨rfl, rfl, rfl, by simp, rfl, rfl, rfl⟩ : Went j2 0 s' { s' with D := s'.D.readsN j2 })).of_eq rfl (by omega), G3.out, G2, G4.out.nil ((Keep.refl Nil w2).alloc _), ?_⟩⟩
  exact (((Stp.of_nil ka G).trans S5.out).trans S4.out).then_nil ((Keep.refl Nil w2).alloc _)
end

theorem nil_up (m : String) (hm : m = "strata/nodes.open" ∨ m = "strata/nodes.begins" ∨ m = "strata/nodes.goes" ∨ m = "strata/nodes.ends") (w : World) : (nilAhead 555 174 (.agg #[]) m).run Tryz.prog w = .ok (some false) w := by
  rcases hm with rfl | rfl | rfl | rfl <;> kernel_rfl
theorem nil_down (m : String) (hm : m = "strata/nodes.open" ∨ m = "strata/nodes.begins" ∨ m = "strata/nodes.goes" ∨ m = "strata/nodes.ends") (w : World) : (nilAhead 555 175 (.agg #[]) m).run Tryz.prog w = .ok (some false) w := by
  rcases hm with rfl | rfl | rfl | rfl <;> kernel_rfl
theorem m_up_open (w : World) : (method 555 174 (.agg #[]) "strata/nodes.open").run Tryz.prog w = .ok (322, .agg #[]) w := by kernel_rfl
theorem m_up_begins (w : World) : (method 555 174 (.agg #[]) "strata/nodes.begins").run Tryz.prog w = .ok (319, .agg #[]) w := by kernel_rfl
theorem m_up_goes (w : World) : (method 555 174 (.agg #[]) "strata/nodes.goes").run Tryz.prog w = .ok (321, .agg #[]) w := by kernel_rfl
theorem m_up_ends (w : World) : (method 555 174 (.agg #[]) "strata/nodes.ends").run Tryz.prog w = .ok (320, .agg #[]) w := by kernel_rfl
theorem m_down_open (w : World) : (method 555 175 (.agg #[]) "strata/nodes.open").run Tryz.prog w = .ok (92, .agg #[]) w := by kernel_rfl
theorem m_down_begins (w : World) : (method 555 175 (.agg #[]) "strata/nodes.begins").run Tryz.prog w = .ok (324, .agg #[]) w := by kernel_rfl
theorem m_down_goes (w : World) : (method 555 175 (.agg #[]) "strata/nodes.goes").run Tryz.prog w = .ok (326, .agg #[]) w := by kernel_rfl
theorem m_down_ends (w : World) : (method 555 175 (.agg #[]) "strata/nodes.ends").run Tryz.prog w = .ok (325, .agg #[]) w := by kernel_rfl
end Go.Proofs.YtadipinnbehhhaaGreatDoor
namespace Go.Proofs.YtadipinnbehhhaaGreatDoor
open Go.RowKit

section
variable {c : Cx} {w w' : World} {b : Nat} {G : Nat → Prop} {s s' : RSt} {fs : List (ByteArray × AFile)} {name : ByteArray} {kind : Nat} {L rem : List R4} {back : Bool}

theorem endL_some {v r m : Nat} (h : endL L = some (v, r, m)) : v ≤ 65536 ∧ m < 9223372036854775808 ∧ ∃ x rest, L.reverse = x :: rest ∧ x.b = v ∧ x.c = r ∧ x.d = m ∧ isE x.a x.b x.c x.d = true := by
  unfold endL at h
  cases hr : L.reverse with
  | nil => rw [hr] at h; cases h
  | cons x rest =>
    rw [hr] at h
    simp only at h
    split at h
    · rename_i he
      injection h with h
      injection h with h1 h2
      injection h2 with h2 h3
      subst h1 h2 h3
      have he2 := he
      unfold isE at he2
      simp only [Bool.and_eq_true, decide_eq_true_eq] at he2
      exact ⟨he2.1.1.2, he2.1.2, x, rest, rfl, rfl, rfl, rfl, he⟩
    · cases h
structure CuR (c : Cx) (name : ByteArray) (L : List R4) (up : Bool) (v r m : Nat) (G : Nat → Prop) (s : RSt) (rem : List R4) (w : World) (e : Ending) (w' : World) : Prop where mk ::
  out : ∃ cb b j q x s', e = .returned (.tuple #[.pointer (some ⟨cb, 0, none⟩), .int .i64 0]) ∧ j ≤ 3 ∧ q ≤ nblk c.K L.length ∧ Went j c.K s s' ∧ RdLive c name 2 L (!up) x q rem ∧
    CurTo c cb b G s' x { up := up, vars := v, root := r, nodes := m, given := 0, last := ⟨0, 0, 0⟩, dead := 0, done := false } w w'
set_option maxRecDepth 100000 in
set_option maxHeartbeats 4000000 in
theorem begin_go {v r m : Nat} (up : Bool) (h : RmAt c w G s) (t : TapeOn c fs name 2 L) (hc : Calm s.D c.block fs) (hcl : s.S.closed = false) (hh : 0 ≤ s.S.hand) (hf : (c.K : Int) ≤ s.S.limit - (s.S.hand + s.S.parts)) (he : endL L = some (v, r, m)) (hn : L.length = m + 1) :
    Calls Tryz.prog 80 #[.pointer (some ⟨c.k, 0, none⟩), .string name, wayV up] w (CuR c name L up v r m G s (if up then L else L.reverse.tail) w) := by
  have hl := look_any h (LookAns.tape fs L t hc hcl hh hf)
  rw [he] at hl
  have HL := Hid.intro_ hl
  obtain ⟨hv, hm, x0, rest, hrev, _⟩ := endL_some he
  have hle := t.le
  have HT := Hid.intro_ t
  have HC := Hid.intro_ hc
  have HCL := Hid.intro_ hcl
  have HHH := Hid.intro_ hh
  have HF := Hid.intro_ hf
  have HREV := Hid.intro_ hrev
  have q : ((L.length : Int) != wrap64 ((m : Int) + 1)) = false := by
    have : (L.length : Int) = wrap64 ((m : Int) + 1) := by unfold wrap64; omega
    simpa using this
  have Q := Hid.intro_ q
  have nu := nil_up
  have nd := nil_down
  have n1 := fun w => nil_up "strata/nodes.open" (.inl rfl) w
  have n2 := fun w => nil_down "strata/nodes.open" (.inl rfl) w
  have m1 := m_up_open
  have m2 := m_down_open
  unfold ansV ansN inV at *
  clear hl h t hc hcl hh hf he hn q hrev nu nd
  have hopen : Hid (∀ (W : World) (G9 : Nat → Prop) (s9 : RSt), RmAt c W G9 s9 → Calm s9.D c.block fs → s9.S.closed = false → (c.K : Int) ≤ s9.S.limit - (s9.S.hand + s9.S.parts) →
      Calls Tryz.prog (if up then 322 else 92) #[.agg #[], .pointer (some ⟨c.k, 0, none⟩), .string name] W fun e w' => ∃ b, e = .returned (.tuple #[.pointer (some ⟨b, 0, none⟩), .int .i64 0]) ∧ W.heap.size ≤ b ∧ OpR c name 2 L (!up) b G9 s9 (if up then L else L.reverse.tail) 1 W w') := Hid.intro_ (fun W G9 s9 h9 hc9 hcl9 hf9 => by
    cases up with
    | true => exact upopen_tape h9 HT.out hc9 hcl9 hf9
    | false =>
      have := downopen_tape h9 HT.out hc9 hcl9 hf9 HREV.out
      simpa [HREV.out] using this)
  obtain ⟨rm9, hrm9⟩ : ∃ rm9, rm9 = (if up then L else L.reverse.tail) := ⟨_, rfl⟩
  rw [← hrm9] at hopen ⊢
  clear hrm9
  cases up
  all_goals
    unfold wayV
    simp only [if_true, Bool.false_eq_true, if_false] at hopen ⊢
    go_enter Tryz.func80, Tryz.ntmps80
    go_wp2_with fail
    refine HL.out.mono ?_
    rintro e w1 ⟨rfl, j, s1, hj, hw, G1, h1, st1⟩
    obtain ⟨W, hW⟩ : ∃ W, W = w1.alloc (.cells #[.int .i64 v, .int .u64 r, .int .i64 m] 72) := ⟨_, rfl⟩
    have kW : Keep Nil w1 W := by rw [hW]; exact (Keep.refl Nil w1).alloc _
    have bW : Blk W w1.heap.size 72 #[.int .i64 v, .int .u64 r, .int .i64 m] := by rw [hW]; exact Blk.new w1 _ _
    have hsz := size_tape (h1.nil kW) HT.out (hw.calm HC.out) (by decide) (by rw [hw.closed]; exact HCL.out) (by rw [hw.hand]; have := HHH.out; omega) (by rw [hw.limit, hw.hand, hw.parts]; have := HF.out; omega)
    have HSZ := Hid.intro_ hsz
    have hoff := Hid.intro_ ((show Off c.E G1 w1.heap.size from Off.new h1.env h1.lt (Nat.le_refl _)))
    have HW := Hid.intro_ hw
    have ST1 := Hid.intro_ st1
    have KW := Hid.intro_ kW
    have BW := Hid.intro_ bW
    clear h1 hw st1 kW bW hsz
    go_wp2_with fail
    rw [← hW]
    refine HSZ.out.mono ?_
    rintro e w2 ⟨rfl, j2, s2, hj2, hw2, G2, h2, st2⟩
    have hw12 := (HW.out.trans hw2).of_eq rfl (show (0 : Int) + 0 = 0 by omega)
    have b2 := BW.out.keep st2.keep hoff.out.1
    have i0 : w2.cell? ⟨w1.heap.size, 0, none⟩ = some (.int .i64 v) := b2.at_ 0
    have i1 : w2.cell? ⟨w1.heap.size, 1, none⟩ = some (.int .u64 r) := b2.at_ 1
    have i2 : w2.cell? ⟨w1.heap.size, 2, none⟩ = some (.int .i64 m) := b2.at_ 2
    have hop := hopen.out w2 G2 s2 h2 (hw12.calm HC.out) (by rw [hw12.closed]; exact HCL.out) (by rw [hw12.limit, hw12.hand, hw12.parts]; have := HF.out; omega)
    have HOP := Hid.intro_ hop
    have off2 := Hid.intro_ (hoff.out.step (w := W) (by rw [hW]; simp) st2)
    have lt2 := b2.lt
    have HW12 := Hid.intro_ hw12
    have ST2 := Hid.intro_ ((ST1.out.then_nil KW.out).trans st2)
    have B2 := Hid.intro_ b2
    have q := Q.out
    clear b2 hw2 st2 h2 hW hop hw12
    go_wp2_with fail
    refine HOP.out.mono ?_
    rintro e w3 ⟨b, rfl, hb, ho⟩
    obtain ⟨j3, q3, x3, s3, g1, g2, g3, g4, G3, h3, st3⟩ := ho.out
    have b3 := B2.out.keep st3.keep off2.out.1
    have e0 : w3.cell? ⟨w1.heap.size, 0, none⟩ = some (.int .i64 v) := b3.at_ 0
    have e1 : w3.cell? ⟨w1.heap.size, 1, none⟩ = some (.int .u64 r) := b3.at_ 1
    have e2 : w3.cell? ⟨w1.heap.size, 2, none⟩ = some (.int .i64 m) := b3.at_ 2
    have lt3 := b3.lt
    have H3 := Hid.intro_ h3
    have ST3 := Hid.intro_ (ST2.out.trans st3)
    have G3' := Hid.intro_ g3
    have G4' := Hid.intro_ g4
    clear ho h3 st3 g3 g4 b3
    go_wp2_with fail
    go_ret2
    have k3 : ∀ o, Keep Nil w3 (w3.alloc o) := fun o => (Keep.refl Nil w3).alloc o
    refine ⟨w3.heap.size, b, j3 + (j2 + j), q3, x3, s3, rfl, by omega, by omega, (HW12.out.trans G3'.out).of_eq rfl (by omega), G4'.out, (fun z => G3 z ∨ z = w3.heap.size), ⟨⟨G3, rfl, H3.out.nil (k3 _), Off.new H3.out.env H3.out.lt (Nat.le_refl _)⟩, ?_⟩, ?_⟩
    · exact Blk.new w3 _ _
    · exact ⟨ST3.out.keep.trans (k3 _) (fun _ _ h => h.elim), fun z hz => hz.elim (fun h => ST3.out.grow z h) (fun e => .inr (by rw [e]; exact ST3.out.keep.size))⟩
set_option maxHeartbeats 1000000 in
theorem down_is (P : Ending → World → Prop) (h : Calls Tryz.prog 80 #[.pointer (some ⟨c.k, 0, none⟩), .string name, wayV false] w fun e w' => (∃ p n, e = .returned (.tuple #[p, .int .i64 n])) ∧ P e w') :
    Calls Tryz.prog 28 #[.pointer (some ⟨c.k, 0, none⟩), .string name] w P := by
  have HB := Hid.intro_ h
  unfold wayV at *
  simp only [Bool.false_eq_true, if_false] at HB
  clear h
  go_enter Tryz.func28, Tryz.ntmps28
  go_wp2_with fail
  refine HB.out.mono ?_
  rintro e w1 ⟨⟨p, n, rfl⟩, hp⟩
  go_wp2_with fail
  exact hp
end
end Go.Proofs.YtadipinnbehhhaaGreatDoor
namespace Go.Proofs.YtadipinnbehhhaaGreatDoor
open Go.RowKit

section
variable {w : World}
set_option maxHeartbeats 1000000 in
theorem upbegins_any (n : N3) (root : Nat) (hn : n.self < 18446744073709551616) (w : World) :
    Calls Tryz.prog 319 #[.agg #[], ndV n.self n.low n.high, .int .u64 root] w fun e w' => e = .returned (.bool (sI n.self == 0)) ∧ Keep Nil w w' := by
  have HF := Hid.intro_ (fun W => first_any n.self n.low n.high hn W)
  unfold ndV at *
  clear hn
  go_enter Tryz.func319, Tryz.ntmps319
  go_wp2_with fail
  refine (HF.out _).mono ?_
  rintro e w1 ⟨rfl, k⟩
  go_wp2_with fail
  go_ret
  exact ⟨rfl, (((Keep.refl Nil w).alloc _).alloc _).then_ k⟩
set_option maxHeartbeats 1000000 in
theorem upends_any (n : N3) (root : Nat) (w : World) :
    Calls Tryz.prog 320 #[.agg #[], ndV n.self n.low n.high, .int .u64 root] w fun e w' => e = .returned (.bool (decide (n.self = root))) ∧ Keep Nil w w' := by
  have HD : Hid (((n.self : Int) == (root : Int)) = decide (n.self = root)) := by
    refine Hid.intro_ ?_
    rw [Bool.eq_iff_iff]
    simp
    omega
  unfold ndV at *
  go_enter Tryz.func320, Tryz.ntmps320
  go_wp2_with fail
  go_ret
  exact ⟨by rw [← HD.out]; rfl, ((Keep.refl Nil w).alloc _).alloc _⟩
set_option maxHeartbeats 1000000 in
theorem upgoes_any (n l : N3) (hn : sIn n.self = true) (hl : sIn l.self = true) (w : World) :
    Calls Tryz.prog 321 #[.agg #[], ndV n.self n.low n.high, ndV l.self l.low l.high] w fun e w' => e = .returned (.bool (flw n.self n.low n.high l.self l.low l.high)) ∧ Keep Nil w w' := by
  have HF := Hid.intro_ (fun W => follows_any n.self n.low n.high l.self l.low l.high hn hl W)
  unfold ndV at *
  clear hn hl
  go_enter Tryz.func321, Tryz.ntmps321
  go_wp2_with fail
  refine (HF.out _).mono ?_
  rintro e w1 ⟨rfl, k⟩
  go_wp2_with fail
  go_ret
  exact ⟨rfl, ((((Keep.refl Nil w).alloc _).alloc _).alloc _).then_ k⟩
set_option maxHeartbeats 1000000 in
theorem downbegins_any (n : N3) (root : Nat) (w : World) :
    Calls Tryz.prog 324 #[.agg #[], ndV n.self n.low n.high, .int .u64 root] w fun e w' => e = .returned (.bool (decide (n.self = root))) ∧ Keep Nil w w' := by
  have HD : Hid (((n.self : Int) == (root : Int)) = decide (n.self = root)) := by
    refine Hid.intro_ ?_
    rw [Bool.eq_iff_iff]
    simp
    omega
  unfold ndV at *
  go_enter Tryz.func324, Tryz.ntmps324
  go_wp2_with fail
  go_ret
  exact ⟨by rw [← HD.out]; rfl, ((Keep.refl Nil w).alloc _).alloc _⟩
set_option maxHeartbeats 1000000 in
theorem downends_any (n : N3) (root : Nat) (hn : n.self < 18446744073709551616) (w : World) :
    Calls Tryz.prog 325 #[.agg #[], ndV n.self n.low n.high, .int .u64 root] w fun e w' => e = .returned (.bool (sI n.self == 0)) ∧ Keep Nil w w' := by
  have HF := Hid.intro_ (fun W => first_any n.self n.low n.high hn W)
  unfold ndV at *
  clear hn
  go_enter Tryz.func325, Tryz.ntmps325
  go_wp2_with fail
  refine (HF.out _).mono ?_
  rintro e w1 ⟨rfl, k⟩
  go_wp2_with fail
  go_ret
  exact ⟨rfl, (((Keep.refl Nil w).alloc _).alloc _).then_ k⟩
set_option maxHeartbeats 1000000 in
theorem downgoes_any (n l : N3) (hn : sIn n.self = true) (hl : sIn l.self = true) (w : World) :
    Calls Tryz.prog 326 #[.agg #[], ndV n.self n.low n.high, ndV l.self l.low l.high] w fun e w' => e = .returned (.bool (flw l.self l.low l.high n.self n.low n.high)) ∧ Keep Nil w w' := by
  have HF := Hid.intro_ (fun W => follows_any l.self l.low l.high n.self n.low n.high hl hn W)
  unfold ndV at *
  clear hn hl
  go_enter Tryz.func326, Tryz.ntmps326
  go_wp2_with fail
  refine (HF.out _).mono ?_
  rintro e w1 ⟨rfl, k⟩
  go_wp2_with fail
  go_ret
  exact ⟨rfl, ((((Keep.refl Nil w).alloc _).alloc _).alloc _).then_ k⟩
end

end Go.Proofs.YtadipinnbehhhaaGreatDoor
