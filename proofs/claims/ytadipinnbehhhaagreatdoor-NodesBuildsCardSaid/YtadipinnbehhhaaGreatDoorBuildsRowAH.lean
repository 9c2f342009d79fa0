/- Data in memory: bytes, rows of bytes, files, a disk's state: what the references hold. The references' SameFile, SameState: at what is the same they answer true. slices.Clone at bytes; a new disk. -/
import Derived.Laws.IdiomStrings
import Derived.StillTailTactics
import Derived.Deep.RegionHeld3
import Derived.Test.YtadipinnbehhhaaGreatDoorBuildsRowAG
namespace Go.Proofs.YtadipinnbehhhaaGreatDoor
open Go.RowKit

/-- Where a slice's cells lie: a block of H that is there. -/
structure InA (w : World) (H : Nat → Prop) (a : Addr) : Prop where
  h : H a.block
  lt : a.block < w.heap.size
  sp : a.spot = none
def In_ (w : World) (H : Nat → Prop) (A : Option Addr) : Prop := ∀ a, A = some a → InA w H a
theorem add_at (g o j : Nat) : (⟨g, o, none⟩ : Addr).add j = ⟨g, o + j, none⟩ := by
  unfold Addr.add
  split
  · rename_i h; rw [h]; rfl
  · rfl

/-- A slice of bytes. -/
structure BsAt (w : World) (H : Nat → Prop) (v : Value) (bs : List Int) : Prop where mk ::
  out : ∃ A c, v = .slice A bs.length c ∧ bs.length ≤ c ∧ Rd w A (by8 bs) ∧ In_ w H A ∧ ∀ a, A = some a → ∃ cs fr, w.heap[a.block]? = some (.cells cs 5 fr)

/-- A slice of such slices. -/
structure FsAt (w : World) (H : Nat → Prop) (v : Value) (f : List (List Int)) : Prop where mk ::
  out : ∃ A c vs, v = .slice A f.length c ∧ vs.length = f.length ∧ Rd w A vs ∧ In_ w H A ∧ (∀ a, A = some a → ∃ cs fr, w.heap[a.block]? = some (.cells cs 161 fr)) ∧ ∀ (j : Nat) (u : Value) (bs : List Int), vs[j]? = some u → f[j]? = some bs → BsAt w H u bs

/-- Files as cells. -/
def fileCells (fs : List (ByteArray × AFile)) (rs : List Value) : List Value := (List.zip fs rs).flatMap fun p => [.string p.1.1, .bool p.1.2.done, p.2]

/-- A slice of files. -/
structure FlAt (w : World) (H : Nat → Prop) (v : Value) (fs : List (ByteArray × AFile)) : Prop where mk ::
  out : ∃ A c rs, v = .slice A fs.length c ∧ rs.length = fs.length ∧ Rd w A (fileCells fs rs) ∧ In_ w H A ∧ (∀ a, A = some a → ∃ cs fr, w.heap[a.block]? = some (.cells cs 55 fr)) ∧ ∀ (j : Nat) (r : Value) (f : ByteArray × AFile), rs[j]? = some r → fs[j]? = some f → FsAt w H r f.2.blocks

/-- A state. -/
structure StAt (w : World) (H : Nat → Prop) (v : Value) (block : Int) (fs : List (ByteArray × AFile)) : Prop where mk ::
  out : ∃ u, v = .agg #[.int .i64 block, u] ∧ FlAt w H u fs

section
variable {w w' : World} {F H H' : Nat → Prop}
theorem In_.keep {A : Option Addr} (h : In_ w H A) (k : Keep F w w') : In_ w' H A := fun a e => ⟨(h a e).1, Nat.lt_of_lt_of_le (h a e).2 k.size, (h a e).3⟩
theorem In_.mono {A : Option Addr} (h : In_ w H A) (hs : ∀ b, H b → b < w.heap.size → H' b) : In_ w H' A := fun a e => ⟨hs _ (h a e).1 (h a e).2, (h a e).2, (h a e).3⟩
theorem In_.none_ : In_ w H none := fun a e => by cases e
theorem BsAt.keep {v : Value} {bs : List Int} (h : BsAt w H v bs) (k : Keep F w w') (hF : ∀ b, H b → b < w.heap.size → ¬ F b) : BsAt w' H v bs := by
  obtain ⟨A, c, e, hc, hr, hi, ht⟩ := h.out
  refine ⟨A, c, e, hc, hr.keep k (fun ad e _ => hF _ (hi ad e).1 (hi ad e).2), hi.keep k, fun a e2 => ?_⟩
  obtain ⟨cs, fr, hb⟩ := ht a e2
  exact ⟨cs, fr, (k.same _ (hi a e2).2 (hF _ (hi a e2).1 (hi a e2).2)).trans hb⟩
theorem BsAt.mono {v : Value} {bs : List Int} (h : BsAt w H v bs) (hs : ∀ b, H b → b < w.heap.size → H' b) : BsAt w H' v bs := by
  obtain ⟨A, c, e, hc, hr, hi, ht⟩ := h.out
  exact ⟨A, c, e, hc, hr, hi.mono hs, ht⟩
theorem FsAt.keep {v : Value} {f : List (List Int)} (h : FsAt w H v f) (k : Keep F w w') (hF : ∀ b, H b → b < w.heap.size → ¬ F b) : FsAt w' H v f := by
  obtain ⟨A, c, vs, e, hl, hr, hi, ht, hv⟩ := h.out
  refine ⟨A, c, vs, e, hl, hr.keep k (fun ad e _ => hF _ (hi ad e).1 (hi ad e).2), hi.keep k, fun a e2 => ?_, fun j u bs hu hb => (hv j u bs hu hb).keep k hF⟩
  obtain ⟨cs, fr, hb⟩ := ht a e2
  exact ⟨cs, fr, (k.same _ (hi a e2).2 (hF _ (hi a e2).1 (hi a e2).2)).trans hb⟩
theorem FsAt.mono {v : Value} {f : List (List Int)} (h : FsAt w H v f) (hs : ∀ b, H b → b < w.heap.size → H' b) : FsAt w H' v f := by
  obtain ⟨A, c, vs, e, hl, hr, hi, ht, hv⟩ := h.out
  exact ⟨A, c, vs, e, hl, hr, hi.mono hs, ht, fun j u bs hu hb => (hv j u bs hu hb).mono hs⟩
theorem FlAt.keep {v : Value} {fs : List (ByteArray × AFile)} (h : FlAt w H v fs) (k : Keep F w w') (hF : ∀ b, H b → b < w.heap.size → ¬ F b) : FlAt w' H v fs := by
  obtain ⟨A, c, rs, e, hl, hr, hi, ht, hv⟩ := h.out
  refine ⟨A, c, rs, e, hl, hr.keep k (fun ad e _ => hF _ (hi ad e).1 (hi ad e).2), hi.keep k, fun a e2 => ?_, fun j r f hu hb => (hv j r f hu hb).keep k hF⟩
  obtain ⟨cs, fr, hb⟩ := ht a e2
  exact ⟨cs, fr, (k.same _ (hi a e2).2 (hF _ (hi a e2).1 (hi a e2).2)).trans hb⟩
theorem FlAt.mono {v : Value} {fs : List (ByteArray × AFile)} (h : FlAt w H v fs) (hs : ∀ b, H b → b < w.heap.size → H' b) : FlAt w H' v fs := by
  obtain ⟨A, c, rs, e, hl, hr, hi, ht, hv⟩ := h.out
  exact ⟨A, c, rs, e, hl, hr, hi.mono hs, ht, fun j r f hu hb => (hv j r f hu hb).mono hs⟩
theorem StAt.keep {v : Value} {block : Int} {fs : List (ByteArray × AFile)} (h : StAt w H v block fs) (k : Keep F w w') (hF : ∀ b, H b → b < w.heap.size → ¬ F b) : StAt w' H v block fs := by
  obtain ⟨u, e, hf⟩ := h.out
  exact ⟨u, e, hf.keep k hF⟩
theorem StAt.mono {v : Value} {block : Int} {fs : List (ByteArray × AFile)} (h : StAt w H v block fs) (hs : ∀ b, H b → b < w.heap.size → H' b) : StAt w H' v block fs := by
  obtain ⟨u, e, hf⟩ := h.out
  exact ⟨u, e, hf.mono hs⟩
theorem BsAt.nil {v : Value} {bs : List Int} (h : BsAt w H v bs) (k : Keep Nil w w') : BsAt w' H v bs := h.keep k (fun _ _ _ h => h)
theorem FsAt.nil {v : Value} {f : List (List Int)} (h : FsAt w H v f) (k : Keep Nil w w') : FsAt w' H v f := h.keep k (fun _ _ _ h => h)
theorem FlAt.nil {v : Value} {fs : List (ByteArray × AFile)} (h : FlAt w H v fs) (k : Keep Nil w w') : FlAt w' H v fs := h.keep k (fun _ _ _ h => h)
theorem StAt.nil {v : Value} {block : Int} {fs : List (ByteArray × AFile)} (h : StAt w H v block fs) (k : Keep Nil w w') : StAt w' H v block fs := h.keep k (fun _ _ _ h => h)

/-- A block of one's own as bytes. -/
theorem BsAt.of_blk {g : Nat} {bs : List Int} (h : Blk w g 5 (by8 bs).toArray) (hg : H g) : BsAt w H (.slice (some ⟨g, 0, none⟩) bs.length bs.length) bs :=
  ⟨some ⟨g, 0, none⟩, bs.length, rfl, Nat.le_refl _, (blk_bytes h).rd, fun a e => by injection e with e; subst e; exact ⟨hg, h.lt, rfl⟩, fun a e => by injection e with e; subst e; exact ⟨_, _, h⟩⟩
/-- A row of one's own as bytes. -/
theorem BsAt.of_own {base n : Nat} {v : Value} {bs : List Int} (h : w.ownsRow base 5 1 v n (by8 bs)) (hn : bs.length = n) (hH : ∀ g, v.ownBlock = some g → H g) : BsAt w H v bs := by
  subst hn
  have hr := h
  rcases h.2 with ⟨e, h0⟩ | ⟨g, cap, cur, e, hb, hh, hle, hm, hs, ht⟩
  · subst e
    exact ⟨none, 0, by rw [h0], by omega, own_rd hr, In_.none_, fun a e => by cases e⟩
  · subst e
    exact ⟨some ⟨g, 0, none⟩, cap, rfl, hle, own_rd hr, fun a e => by injection e with e; subst e; exact ⟨hH g rfl, lt_of_heap hh, rfl⟩, fun a e => by injection e with e; subst e; exact ⟨_, _, hh⟩⟩

/-- A row of one's own of slices of bytes. -/
structure OFs (w : World) (base : Nat) (H : Nat → Prop) (v : Value) (f : List (List Int)) : Prop where mk ::
  out : ∃ vs, w.ownsRow base 161 1 v f.length vs ∧ ∀ (j : Nat) (u : Value) (bs : List Int), vs[j]? = some u → f[j]? = some bs → BsAt w H u bs
theorem OFs.fs {base : Nat} {v : Value} {f : List (List Int)} (h : OFs w base H v f) (hH : ∀ g, v.ownBlock = some g → H g) : FsAt w H v f := by
  obtain ⟨vs, ho, hv⟩ := h.out
  have hr := ho
  have hl : vs.length = f.length := by simpa using ho.1
  rcases ho.2 with ⟨e, h0⟩ | ⟨g, cap, cur, e, hb, hh, hle, hm, hs, ht⟩
  · subst e
    exact ⟨none, 0, vs, by rw [h0], hl, own_rd hr, In_.none_, (fun a e => by cases e), hv⟩
  · subst e
    exact ⟨some ⟨g, 0, none⟩, cap, vs, rfl, hl, own_rd hr, fun a e => by injection e with e; subst e; exact ⟨hH g rfl, lt_of_heap hh, rfl⟩, fun a e => by injection e with e; subst e; exact ⟨_, _, hh⟩, hv⟩
theorem OFs.nil_ (w : World) (base : Nat) (H : Nat → Prop) : OFs w base H (.slice none 0 0) [] := ⟨[], World.ownsRow_nil _ _ _ _, fun j u bs hu => by simp at hu⟩
theorem OFs.keep {base : Nat} {v : Value} {f : List (List Int)} (h : OFs w base H v f) (k : Keep F w w') (h1 : ∀ g, v.ownBlock = some g → ¬ F g) (hF : ∀ b, H b → b < w.heap.size → ¬ F b) : OFs w' base H v f := by
  obtain ⟨vs, ho, hv⟩ := h.out
  exact ⟨vs, own_keep ho k h1, fun j u bs hu hb => (hv j u bs hu hb).keep k hF⟩
theorem OFs.nil {base : Nat} {v : Value} {f : List (List Int)} (h : OFs w base H v f) (k : Keep Nil w w') : OFs w' base H v f := h.keep k (fun _ _ h => h) (fun _ _ _ h => h)
/-- One more, by what append leaves. -/
theorem OFs.push {base : Nat} {v v' u : Value} {f : List (List Int)} {bs : List Int} {vs : List Value} {w1 : World} (hv : ∀ (j : Nat) (u : Value) (bs : List Int), vs[j]? = some u → f[j]? = some bs → BsAt w1 H u bs) (hl : vs.length = f.length)
    (hu : BsAt w1 H u bs) (ho : w'.ownsRow base 161 1 v' (f.length + 1) (vs ++ [u])) (k : Keep (fun b => v.ownBlock = some b) w1 w') (hH : ∀ g, v.ownBlock = some g → ∀ cs fr, ¬ w1.heap[g]? = some (.cells cs 5 fr)) : OFs w' base H v' (f ++ [bs]) := by
  have key : ∀ {u : Value} {bs : List Int}, BsAt w1 H u bs → BsAt w' H u bs := fun {u bs} h => by
    obtain ⟨A, c, e, hc, hr, hi, ht⟩ := h.out
    have hno : ∀ a, A = some a → ¬ v.ownBlock = some a.block := fun a e2 e3 => by
      obtain ⟨cs, fr, hb⟩ := ht a e2
      exact hH _ e3 cs fr hb
    refine ⟨A, c, e, hc, hr.keep k (fun ad e2 _ => hno ad e2), hi.keep k, fun a e2 => ?_⟩
    obtain ⟨cs, fr, hb⟩ := ht a e2
    exact ⟨cs, fr, (k.same _ (hi a e2).2 (hno a e2)).trans hb⟩
  refine ⟨vs ++ [u], by rw [List.length_append]; exact ho, fun j x c hx hc => ?_⟩
  by_cases hj : j < f.length
  · rw [List.getElem?_append_left (by omega)] at hx
    rw [List.getElem?_append_left hj] at hc
    exact key (hv j x c hx hc)
  · rw [List.getElem?_append_right (by omega)] at hx hc
    rw [hl] at hx
    have h0 : j - f.length = 0 := by
      have := (List.getElem?_eq_some_iff.1 hc).1
      simp at this
      omega
    rw [h0] at hx hc
    simp only [List.getElem?_cons_zero, Option.some.injEq] at hx hc
    subst hx hc
    exact key hu
/-- What turns one block that is no block of bytes, nor of slices of bytes. -/
theorem BsAt.far {v : Value} {bs : List Int} {g : Nat} (h : BsAt w H v bs) (k : Keep (fun b => b = g) w w') (hg : ∀ cs fr, ¬ w.heap[g]? = some (.cells cs 5 fr)) : BsAt w' H v bs := by
  obtain ⟨A, c, e, hc, hr, hi, ht⟩ := h.out
  have hno : ∀ a, A = some a → ¬ a.block = g := fun a e2 e3 => by
    obtain ⟨cs, fr, hb⟩ := ht a e2
    exact hg cs fr (by rw [← e3]; exact hb)
  refine ⟨A, c, e, hc, hr.keep k (fun ad e2 _ => hno ad e2), hi.keep k, fun a e2 => ?_⟩
  obtain ⟨cs, fr, hb⟩ := ht a e2
  exact ⟨cs, fr, (k.same _ (hi a e2).2 (hno a e2)).trans hb⟩
theorem FsAt.far {v : Value} {f : List (List Int)} {g : Nat} (h : FsAt w H v f) (k : Keep (fun b => b = g) w w') (hg : ∀ cs fr, ¬ w.heap[g]? = some (.cells cs 5 fr)) (hg2 : ∀ cs fr, ¬ w.heap[g]? = some (.cells cs 161 fr)) : FsAt w' H v f := by
  obtain ⟨A, c, vs, e, hl, hr, hi, ht, hv⟩ := h.out
  have hno : ∀ a, A = some a → ¬ a.block = g := fun a e2 e3 => by
    obtain ⟨cs, fr, hb⟩ := ht a e2
    exact hg2 cs fr (by rw [← e3]; exact hb)
  refine ⟨A, c, vs, e, hl, hr.keep k (fun ad e2 _ => hno ad e2), hi.keep k, fun a e2 => ?_, fun j u bs hu hb => (hv j u bs hu hb).far k hg⟩
  obtain ⟨cs, fr, hb⟩ := ht a e2
  exact ⟨cs, fr, (k.same _ (hi a e2).2 (hno a e2)).trans hb⟩

theorem FlAt.far {v : Value} {fs : List (ByteArray × AFile)} {g : Nat} (h : FlAt w H v fs) (k : Keep (fun b => b = g) w w') (hg : ∀ cs t fr, w.heap[g]? = some (.cells cs t fr) → t ≠ 5 ∧ t ≠ 161 ∧ t ≠ 55) : FlAt w' H v fs := by
  obtain ⟨A, c, rs, e, hl, hr, hi, ht, hv⟩ := h.out
  have hno : ∀ a, A = some a → ¬ a.block = g := fun a e2 e3 => by
    obtain ⟨cs, fr, hb⟩ := ht a e2
    exact (hg cs _ fr (by rw [← e3]; exact hb)).2.2 rfl
  refine ⟨A, c, rs, e, hl, hr.keep k (fun ad e2 _ => hno ad e2), hi.keep k, fun a e2 => ?_, fun j u f hu hb => (hv j u f hu hb).far k (fun cs fr hc => (hg cs _ fr hc).1 rfl) (fun cs fr hc => (hg cs _ fr hc).2.1 rfl)⟩
  obtain ⟨cs, fr, hb⟩ := ht a e2
  exact ⟨cs, fr, (k.same _ (hi a e2).2 (hno a e2)).trans hb⟩

theorem fileCells_app (fs gs : List (ByteArray × AFile)) (rs ts : List Value) (h : rs.length = fs.length) : fileCells (fs ++ gs) (rs ++ ts) = fileCells fs rs ++ fileCells gs ts := by
  unfold fileCells
  rw [List.zip_append h.symm, List.flatMap_append]
theorem fileCells_len : ∀ (fs : List (ByteArray × AFile)) (rs : List Value), rs.length = fs.length → (fileCells fs rs).length = 3 * fs.length
  | [], [], _ => rfl
  | f :: fs, r :: rs, h => by
    have := fileCells_len fs rs (by simpa using h)
    have e : fileCells (f :: fs) (r :: rs) = [.string f.1, .bool f.2.done, r] ++ fileCells fs rs := rfl
    rw [e, List.length_append, this]
    simp; omega
theorem fileCells_at : ∀ (fs : List (ByteArray × AFile)) (rs : List Value) (j : Nat) (f : ByteArray × AFile) (r : Value), fs[j]? = some f → rs[j]? = some r →
    (fileCells fs rs)[j * 3]? = some (.string f.1) ∧ (fileCells fs rs)[j * 3 + 1]? = some (.bool f.2.done) ∧ (fileCells fs rs)[j * 3 + 2]? = some r
  | [], _, _, _, _, h, _ => by simp at h
  | _ :: _, [], _, _, _, _, h => by simp at h
  | f :: fs, r :: rs, 0, f', r', h1, h2 => by
    simp only [List.getElem?_cons_zero, Option.some.injEq] at h1 h2
    subst h1 h2
    exact ⟨rfl, rfl, rfl⟩
  | f :: fs, r :: rs, j + 1, f', r', h1, h2 => by
    have ih := fileCells_at fs rs j f' r' (by simpa using h1) (by simpa using h2)
    have e : fileCells (f :: fs) (r :: rs) = .string f.1 :: .bool f.2.done :: r :: fileCells fs rs := rfl
    rw [e, show (j + 1) * 3 = j * 3 + 1 + 1 + 1 from by omega, show j * 3 + 1 + 1 + 1 + 1 = (j * 3 + 1) + 1 + 1 + 1 from by omega, show j * 3 + 1 + 1 + 1 + 2 = (j * 3 + 2) + 1 + 1 + 1 from by omega]
    simpa using ih

/-- A row of one's own of files. -/
structure OFl (w : World) (base : Nat) (H : Nat → Prop) (v : Value) (fs : List (ByteArray × AFile)) : Prop where mk ::
  out : ∃ rs, rs.length = fs.length ∧ w.ownsRow base 55 3 v fs.length (fileCells fs rs) ∧ ∀ (j : Nat) (r : Value) (f : ByteArray × AFile), rs[j]? = some r → fs[j]? = some f → FsAt w H r f.2.blocks
theorem OFl.fl {base : Nat} {v : Value} {fs : List (ByteArray × AFile)} (h : OFl w base H v fs) (hH : ∀ g, v.ownBlock = some g → H g) : FlAt w H v fs := by
  obtain ⟨rs, hl, ho, hv⟩ := h.out
  have hr := ho
  rcases ho.2 with ⟨e, h0⟩ | ⟨g, cap, cur, e, hb, hh, hle, hm, hs, ht⟩
  · subst e
    exact ⟨none, 0, rs, by rw [h0], hl, own_rd hr, In_.none_, (fun a e => by cases e), hv⟩
  · subst e
    exact ⟨some ⟨g, 0, none⟩, cap, rs, rfl, hl, own_rd hr, (fun a e => by injection e with e; subst e; exact ⟨hH g rfl, lt_of_heap hh, rfl⟩), (fun a e => by injection e with e; subst e; exact ⟨_, _, hh⟩), hv⟩
theorem OFl.nil_ (w : World) (base : Nat) (H : Nat → Prop) : OFl w base H (.slice none 0 0) [] := ⟨[], rfl, World.ownsRow_nil _ _ _ _, fun j u bs hu => by simp at hu⟩
theorem OFl.keep {base : Nat} {v : Value} {fs : List (ByteArray × AFile)} (h : OFl w base H v fs) (k : Keep F w w') (h1 : ∀ g, v.ownBlock = some g → ¬ F g) (hF : ∀ b, H b → b < w.heap.size → ¬ F b) : OFl w' base H v fs := by
  obtain ⟨rs, hl, ho, hv⟩ := h.out
  exact ⟨rs, hl, own_keep ho k h1, fun j u bs hu hb => (hv j u bs hu hb).keep k hF⟩
theorem OFl.nil {base : Nat} {v : Value} {fs : List (ByteArray × AFile)} (h : OFl w base H v fs) (k : Keep Nil w w') : OFl w' base H v fs := h.keep k (fun _ _ h => h) (fun _ _ _ h => h)
theorem OFl.mono {base : Nat} {v : Value} {fs : List (ByteArray × AFile)} (h : OFl w base H v fs) (hs : ∀ b, H b → b < w.heap.size → H' b) : OFl w base H' v fs := by
  obtain ⟨rs, hl, ho, hv⟩ := h.out
  exact ⟨rs, hl, ho, fun j u bs hu hb => (hv j u bs hu hb).mono hs⟩
/-- One more, by what append leaves. -/
theorem OFl.push {base : Nat} {v v' r : Value} {fs : List (ByteArray × AFile)} {f : ByteArray × AFile} {rs : List Value} {w1 : World} (hv : ∀ (j : Nat) (r : Value) (f : ByteArray × AFile), rs[j]? = some r → fs[j]? = some f → FsAt w1 H r f.2.blocks) (hl : rs.length = fs.length)
    (ho0 : w1.ownsRow base 55 3 v fs.length (fileCells fs rs)) (hr : FsAt w1 H r f.2.blocks) (ho : w'.ownsRow base 55 3 v' (fs.length + 1) (fileCells fs rs ++ [.string f.1, .bool f.2.done, r])) (k : Keep (fun b => v.ownBlock = some b) w1 w') : OFl w' base H v' (fs ++ [f]) := by
  have key : ∀ {r : Value} {f : List (List Int)}, FsAt w1 H r f → FsAt w' H r f := fun {r f} h => by
    rcases ho0.2 with ⟨e, _⟩ | ⟨g, cap, cur, e, _, hh, _⟩
    · subst e
      exact h.nil (k.mono fun b _ hb => by simp [Value.ownBlock] at hb)
    · subst e
      refine h.far (g := g) (k.mono fun b _ hb => ?_) (fun cs fr hb => ?_) (fun cs fr hb => ?_)
      · have : g = b := by simpa [Value.ownBlock] using hb
        exact this.symm
      · rw [hb] at hh; injection hh with hh; injection hh with _ hh; exact absurd hh (by decide)
      · rw [hb] at hh; injection hh with hh; injection hh with _ hh; exact absurd hh (by decide)
  refine ⟨rs ++ [r], by simp [hl], ?_, fun j x c hx hc => ?_⟩
  · rw [List.length_append, fileCells_app _ _ _ _ hl]
    exact ho
  · by_cases hj : j < fs.length
    · rw [List.getElem?_append_left (by omega)] at hx
      rw [List.getElem?_append_left hj] at hc
      exact key (hv j x c hx hc)
    · rw [List.getElem?_append_right (by omega)] at hx hc
      rw [hl] at hx
      have h0 : j - fs.length = 0 := by
        have := (List.getElem?_eq_some_iff.1 hc).1
        simp at this
        omega
      rw [h0] at hx hc
      simp only [List.getElem?_cons_zero, Option.some.injEq] at hx hc
      subst hx hc
      exact key hr
end
end Go.Proofs.YtadipinnbehhhaaGreatDoor
namespace Go.Proofs.YtadipinnbehhhaaGreatDoor
open Go.RowKit

def toB (bs : List Int) : List UInt8 := bs.map fun x => UInt8.ofNat x.toNat
theorem toB_len (bs : List Int) : (toB bs).length = bs.length := by simp [toB]

/-- string(b). -/
theorem conv_str (w : World) (a : Addr) (cap : Nat) (bs : List Int) (hr : Rd w (some a) (by8 bs)) (h8 : ∀ x ∈ bs, 0 ≤ x ∧ x ≤ 255) : (convert 161 9 (.slice (some a) bs.length cap)).run Tryz.prog w = .ok (.string ⟨(toB bs).toArray⟩) w := by
  have := run_convert_bytes_back (P := Tryz.prog) w 161 9 5 a cap (toB bs) Tryz.underlying161 Tryz.underlying5 Tryz.underlying9 (fun j hj => by
    rw [toB_len] at hj
    have hb : bs[j]? = some bs[j] := List.getElem?_eq_getElem hj
    obtain ⟨ad, e, hc⟩ := hr j (.int .u8 bs[j]) (by unfold by8; rw [List.getElem?_map, hb]; rfl)
    injection e with e
    subst e
    rw [hc]
    have := h8 bs[j] (List.getElem_mem hj)
    congr 2
    simp only [toB, List.getElem_map, UInt8.toNat_ofNat']
    omega)
  rw [toB_len] at this
  exact this
/-- string(b) of none. -/
theorem conv_str_nil (w : World) (cap : Nat) : (convert 161 9 (.slice none 0 cap)).run Tryz.prog w = .ok (.string ⟨#[]⟩) w := by
  rw [run_convert_bytes_string w 161 9 5 none 0 cap Tryz.underlying161 Tryz.underlying5 Tryz.underlying9]
  simp [Conv.bytesToString, go_sem]
  rfl
theorem conv_any {w : World} {H : Nat → Prop} {v : Value} {bs : List Int} (h : BsAt w H v bs) (h8 : ∀ x ∈ bs, 0 ≤ x ∧ x ≤ 255) (n : Nat) : (convert 161 9 v).run Tryz.prog (w.drewN n) = .ok (.string ⟨(toB bs).toArray⟩) (w.drewN n) := by
  obtain ⟨A, c, rfl, hc, hr, hi, ht⟩ := h.out
  cases A with
  | some a => exact conv_str (w.drewN n) a c bs (hr.keep ((Keep.refl Nil w).drewN n) (fun _ _ _ h => h)) h8
  | none =>
    have hl : bs = [] := by
      rcases bs with _ | ⟨x, l⟩
      · rfl
      · obtain ⟨ad, e, _⟩ := hr 0 (.int .u8 x) (by simp [by8])
        cases e
    subst hl
    exact conv_str_nil _ _

set_option maxRecDepth 100000 in
set_option maxHeartbeats 2000000 in
theorem samefile_true (H H' : Nat → Prop) (v v' : Value) (f : ByteArray × AFile) (w : World) (hf : FsAt w H v f.2.blocks) (hg : FsAt w H' v' f.2.blocks) (h8 : ∀ b ∈ f.2.blocks, ∀ x ∈ b, 0 ≤ x ∧ x ≤ 255) (hl : f.2.blocks.length ≤ 9223372036854775807) :
    Calls Tryz.prog 74 #[.agg #[.string f.1, .bool f.2.done, v], .agg #[.string f.1, .bool f.2.done, v']] w fun e w' => e = .returned (.bool true) ∧ Keep Nil w w' := by
  obtain ⟨A, c, vs, rfl, hvl, hvr, hvi, hvt, hvb⟩ := hf.out
  obtain ⟨A', c', vs', rfl, hvl', hvr', hvi', hvt', hvb'⟩ := hg.out
  have HVR := Hid.intro_ hvr
  have HVR' := Hid.intro_ hvr'
  have HVB := Hid.intro_ hvb
  have HVB' := Hid.intro_ hvb'
  have H8 := Hid.intro_ h8
  obtain ⟨nb, hnb⟩ : ∃ n, n = f.2.blocks.length := ⟨_, rfl⟩
  rw [← hnb] at hl hvl hvl' ⊢
  have HNB := Hid.intro_ hnb
  obtain ⟨dn, hdn⟩ : ∃ b, b = f.2.done := ⟨_, rfl⟩
  rw [← hdn]
  have q2 : (dn != dn) = false := by simp
  have q3 : ((nb : Int) != nb) = false := by simp
  have k0 : Keep Nil w ((w.alloc (.cells #[.string f.1, .bool dn, .slice A nb c] 55)).alloc (.cells #[.string f.1, .bool dn, .slice A' nb c'] 55)) := ((Keep.refl Nil w).alloc _).alloc _
  have hb1 := (Blk.new w 55 #[.string f.1, .bool dn, .slice A nb c]).alloc (.cells #[.string f.1, .bool dn, .slice A' nb c'] 55)
  have hb2 := Blk.new_at (n := w.heap.size + 1) (w.alloc (.cells #[.string f.1, .bool dn, .slice A nb c] 55)) 55 #[.string f.1, .bool dn, .slice A' nb c'] (by simp)
  have K0 := Hid.intro_ k0
  have B1 := Hid.intro_ hb1
  have B2 := Hid.intro_ hb2
  clear hf hg hvr hvr' hvb hvb' hvt hvt' h8 hnb hdn k0 hb1 hb2
  go_enter Tryz.func74, Tryz.ntmps74
  go_wp2
  go_loopw [5] (fun i wr => ∃ k : Nat, k ≤ nb ∧ i = .int .i64 k ∧ Keep Nil ((w.alloc (.cells #[.string f.1, .bool dn, .slice A nb c] 55)).alloc (.cells #[.string f.1, .bool dn, .slice A' nb c'] 55)) wr) (fun i _ => nb - (intOf i).toNat)
  case atStart => exact ⟨0, Nat.zero_le _, rfl, Keep.refl _ _⟩
  case round =>
    obtain ⟨k, hk, rfl, kwr⟩ := hrel
    have b1 := B1.out.keep kwr (fun h => h)
    have b2 := B2.out.keep kwr (fun h => h)
    have x2 : wr.cell? ⟨w.heap.size, 2, none⟩ = some (.slice A nb c) := b1.at_ 2
    have y2 : wr.cell? ⟨w.heap.size + 1, 2, none⟩ = some (.slice A' nb c') := b2.at_ 2
    by_cases hlt : k < nb
    · obtain ⟨bs, hbs⟩ : ∃ bs, f.2.blocks[k]? = some bs := ⟨_, List.getElem?_eq_getElem (by rw [← HNB.out]; exact hlt)⟩
      obtain ⟨u, hu⟩ : ∃ u, vs[k]? = some u := ⟨_, List.getElem?_eq_getElem (by omega)⟩
      obtain ⟨u', hu'⟩ : ∃ u, vs'[k]? = some u := ⟨_, List.getElem?_eq_getElem (by omega)⟩
      have kk := K0.out.then_ kwr
      have hb := (HVB.out k u bs hu hbs).nil kk
      have hb' := (HVB'.out k u' bs hu' hbs).nil kk
      obtain ⟨⟨g, o, sp⟩, rfl, p⟩ := HVR.out k u hu
      obtain rfl : sp = none := (hvi _ rfl).3
      obtain ⟨⟨g', o', sp'⟩, rfl, p'⟩ := HVR'.out k u' hu'
      obtain rfl : sp' = none := (hvi' _ rfl).3
      rw [add_at] at p p'
      have p2 := cell_keep p kk (fun h => h)
      have p2' := cell_keep p' kk (fun h => h)
      have cv := conv_any hb (H8.out bs (List.mem_of_getElem? hbs))
      have cv' := conv_any hb' (H8.out bs (List.mem_of_getElem? hbs))
      obtain ⟨T, hT⟩ : ∃ T, T = (toB bs) := ⟨_, rfl⟩
      rw [← hT] at cv cv'
      obtain ⟨A3, c3, rfl, _⟩ := hb.out
      obtain ⟨A4, c4, rfl, _⟩ := hb'.out
      have q : (T != T) = false := by simp
      have hk0 : 0 ≤ (k : Int) := by omega
      have hk1 : (k : Int) < (nb : Int) := by omega
      clear hbs hu hu' hT p p' hb hb'
      go_wp2_with fail
      go_quiet (fail)
      go_wp2
      go_roundw
      case rel => exact ⟨k + 1, by omega, by go_num, kwr.drewN _⟩
      case measure => simp [intOf]; omega
    · obtain rfl : k = nb := by omega
      go_wp2
      go_ret
      exact ⟨rfl, K0.out.then_ kwr⟩

/-- A file of a row of files, in memory. -/
theorem FlAt.get {w : World} {H : Nat → Prop} {A : Option Addr} {n c k : Nat} {fs : List (ByteArray × AFile)} {f : ByteArray × AFile} (h : FlAt w H (.slice A n c) fs) (hk : fs[k]? = some f) :
    ∃ g o Ar cr, A = some ⟨g, o, none⟩ ∧ w.cell? ⟨g, o + k * 3, none⟩ = some (.string f.1) ∧ w.cell? ⟨g, o + k * 3 + 1, none⟩ = some (.bool f.2.done) ∧ w.cell? ⟨g, o + k * 3 + 2, none⟩ = some (.slice Ar f.2.blocks.length cr) ∧ FsAt w H (.slice Ar f.2.blocks.length cr) f.2.blocks := by
  obtain ⟨A', c', rs, e0, hrl, hrr, hri, hrt, hre⟩ := h.out
  injection e0 with e1 e2 e3
  subst e1
  obtain ⟨r, hr⟩ : ∃ r, rs[k]? = some r := ⟨_, List.getElem?_eq_getElem (by rw [hrl]; exact (List.getElem?_eq_some_iff.1 hk).1)⟩
  obtain ⟨a0, a1, a2⟩ := fileCells_at fs rs k f r hk hr
  have hfs := hre k r f hr hk
  obtain ⟨⟨g, o, sp⟩, rfl, p0⟩ := hrr _ _ a0
  obtain rfl : sp = none := (hri _ rfl).3
  obtain ⟨_, e, p1⟩ := hrr _ _ a1
  injection e with e; subst e
  obtain ⟨_, e, p2⟩ := hrr _ _ a2
  injection e with e; subst e
  rw [add_at] at p0 p1 p2
  rw [← Nat.add_assoc] at p1 p2
  obtain ⟨Ar, cr, _, rfl, _⟩ := hfs.out
  exact ⟨g, o, Ar, cr, rfl, p0, p1, p2, hfs⟩
theorem FlAt.form {w : World} {H : Nat → Prop} {v : Value} {fs : List (ByteArray × AFile)} (h : FlAt w H v fs) : ∃ A c, v = .slice A fs.length c := by
  obtain ⟨A, c, rs, e, _⟩ := h.out
  exact ⟨A, c, e⟩

/-- Bytes are bytes. -/
def Bytes (fs : List (ByteArray × AFile)) : Prop := ∀ f ∈ fs, ∀ b ∈ f.2.blocks, ∀ x ∈ b, 0 ≤ x ∧ x ≤ 255
/-- Few files of few blocks. -/
def Few (fs : List (ByteArray × AFile)) : Prop := fs.length ≤ 1099511627776 ∧ ∀ f ∈ fs, f.2.blocks.length ≤ 1099511627776

set_option maxRecDepth 100000 in
set_option maxHeartbeats 2000000 in
theorem samestate_true (H H' : Nat → Prop) (v v' : Value) (block : Int) (fs : List (ByteArray × AFile)) (w : World) (hs : StAt w H v block fs) (hs' : StAt w H' v' block fs) (h8 : Bytes fs) (hl : Few fs) :
    Calls Tryz.prog 63 #[v, v'] w fun e w' => e = .returned (.bool true) ∧ Keep Nil w w' := by
  obtain ⟨u, rfl, hf⟩ := hs.out
  obtain ⟨u', rfl, hf'⟩ := hs'.out
  obtain ⟨A, c, rs, rfl, hrl, hrr, hri, hrt, hre⟩ := hf.out
  obtain ⟨A', c', rs', rfl, hrl', hrr', hri', hrt', hre'⟩ := hf'.out
  have HR := Hid.intro_ hrr
  have HR' := Hid.intro_ hrr'
  have HE := Hid.intro_ hre
  have HE' := Hid.intro_ hre'
  have H8 := Hid.intro_ h8
  have HL := Hid.intro_ hl
  have hln := hl.1
  obtain ⟨n, hn⟩ : ∃ n, n = fs.length := ⟨_, rfl⟩
  rw [← hn] at hrl hrl' hln ⊢
  have HN := Hid.intro_ hn
  have q2 : (block != block) = false := by simp
  have q3 : ((n : Int) != n) = false := by simp
  have k0 : Keep Nil w ((w.alloc (.cells #[.int .i64 block, .slice A n c] 28)).alloc (.cells #[.int .i64 block, .slice A' n c'] 28)) := ((Keep.refl Nil w).alloc _).alloc _
  have hb1 := (Blk.new w 28 #[.int .i64 block, .slice A n c]).alloc (.cells #[.int .i64 block, .slice A' n c'] 28)
  have hb2 := Blk.new_at (n := w.heap.size + 1) (w.alloc (.cells #[.int .i64 block, .slice A n c] 28)) 28 #[.int .i64 block, .slice A' n c'] (by simp)
  have K0 := Hid.intro_ k0
  have B1 := Hid.intro_ hb1
  have B2 := Hid.intro_ hb2
  clear hs hs' hf hf' hrr hrr' hre hre' hrt hrt' h8 hl hn k0 hb1 hb2
  go_enter Tryz.func63, Tryz.ntmps63
  go_wp2
  go_loopw [5] (fun i wr => ∃ k : Nat, k ≤ n ∧ i = .int .i64 k ∧ Keep Nil ((w.alloc (.cells #[.int .i64 block, .slice A n c] 28)).alloc (.cells #[.int .i64 block, .slice A' n c'] 28)) wr) (fun i _ => n - (intOf i).toNat)
  case atStart => exact ⟨0, Nat.zero_le _, rfl, Keep.refl _ _⟩
  case round =>
    obtain ⟨k, hk, rfl, kwr⟩ := hrel
    have b1 := B1.out.keep kwr (fun h => h)
    have b2 := B2.out.keep kwr (fun h => h)
    have x2 : wr.cell? ⟨w.heap.size, 1, none⟩ = some (.slice A n c) := b1.at_ 1
    have y2 : wr.cell? ⟨w.heap.size + 1, 1, none⟩ = some (.slice A' n c') := b2.at_ 1
    by_cases hlt : k < n
    · obtain ⟨f, hf⟩ : ∃ f, fs[k]? = some f := ⟨_, List.getElem?_eq_getElem (by rw [← HN.out]; exact hlt)⟩
      obtain ⟨r, hr⟩ : ∃ r, rs[k]? = some r := ⟨_, List.getElem?_eq_getElem (by omega)⟩
      obtain ⟨r', hr'⟩ : ∃ r, rs'[k]? = some r := ⟨_, List.getElem?_eq_getElem (by omega)⟩
      have kk := K0.out.then_ kwr
      obtain ⟨a0, a1, a2⟩ := fileCells_at fs rs k f r hf hr
      obtain ⟨a0', a1', a2'⟩ := fileCells_at fs rs' k f r' hf hr'
      have hfs := (HE.out k r f hr hf).nil kk.drew
      have hfs' := (HE'.out k r' f hr' hf).nil kk.drew
      obtain ⟨⟨g, o, sp⟩, rfl, p0⟩ := HR.out _ _ a0
      obtain rfl : sp = none := (hri _ rfl).3
      obtain ⟨_, e, p1⟩ := HR.out _ _ a1
      injection e with e; subst e
      obtain ⟨_, e, p2⟩ := HR.out _ _ a2
      injection e with e; subst e
      obtain ⟨⟨g', o', sp'⟩, rfl, p0'⟩ := HR'.out _ _ a0'
      obtain rfl : sp' = none := (hri' _ rfl).3
      obtain ⟨_, e, p1'⟩ := HR'.out _ _ a1'
      injection e with e; subst e
      obtain ⟨_, e, p2'⟩ := HR'.out _ _ a2'
      injection e with e; subst e
      rw [add_at] at p0 p1 p2 p0' p1' p2'
      rw [← Nat.add_assoc] at p1 p2 p1' p2'
      have z0 := cell_keep p0 kk (fun h => h)
      have z1 := cell_keep p1 kk (fun h => h)
      have z2 := cell_keep p2 kk (fun h => h)
      have z0' := cell_keep p0' kk (fun h => h)
      have z1' := cell_keep p1' kk (fun h => h)
      have z2' := cell_keep p2' kk (fun h => h)
      obtain ⟨Ar, cr, _, rfl, _⟩ := hfs.out
      obtain ⟨Ar', cr', _, rfl, _⟩ := hfs'.out
      have hsf := samefile_true _ _ _ _ f wr.drew hfs hfs' (H8.out f (List.mem_of_getElem? hf)) (by have := HL.out.2 f (List.mem_of_getElem? hf); omega)
      have HSF := Hid.intro_ hsf
      have hk0 : 0 ≤ (k : Int) := by omega
      have hk1 : (k : Int) < (n : Int) := by omega
      clear hf hr hr' a0 a1 a2 a0' a1' a2' p0 p1 p2 p0' p1' p2' hfs hfs' hsf
      go_wp2_with fail
      go_still_tail 10, (by kernel_rfl)
      change wpList _ _ _ _ _ wr.drew
      go_wp2_with fail
      refine HSF.out.mono ?_
      rintro e w3 ⟨rfl, k3⟩
      go_wp2
      go_roundw
      case rel => exact ⟨k + 1, by omega, by go_num, kwr.drew.then_ k3⟩
      case measure => simp [intOf]; omega
    · obtain rfl : k = n := by omega
      go_wp2
      go_ret
      exact ⟨rfl, K0.out.then_ kwr⟩
end Go.Proofs.YtadipinnbehhhaaGreatDoor
namespace Go.Proofs.YtadipinnbehhhaaGreatDoor
open Go.RowKit

set_option maxRecDepth 100000 in
set_option maxHeartbeats 2000000 in
theorem clone_rd (ad : Addr) (c : Nat) (bs : List Int) (w : World) (hr : Rd w (some ad) (by8 bs)) (h2 : bs.length ≤ 65536) :
    Calls Tryz.prog 71 #[.slice (some ad) bs.length c] w fun e w' => ∃ u, e = .returned u ∧ BsAt w' (fun b => w.heap.size ≤ b) u bs ∧ Keep Nil w w' := by
  obtain ⟨i0, hi0, hz0, hz1, hz2⟩ := info_parts info_u8
  have HR := Hid.intro_ hr
  clear hr
  have hmade := World.ownsRow_made (base := w.heap.size) (w := w) (e := 5) (size := 1) #[] 0 (Nat.le_refl _) (Nat.zero_le _) rfl
  have HM := Hid.intro_ hmade
  have hsrc : Hid (∀ w', Keep Nil w w' → ∀ (j : Nat) (u : Value), (by8 bs)[j]? = some u → w'.cell? (ad.add j) = some u) := fun w' k j u hu => by
    obtain ⟨ad2, e, hc⟩ := (HR.out.keep k (fun _ _ _ h => h)) j u hu
    injection e with e
    subst e
    exact hc
  have h1c := Hid.intro_ (show ∀ v ∈ by8 bs, v.oneCell' = true by
    intro v hv
    obtain ⟨x, _, rfl⟩ := List.mem_map.1 hv
    rfl)
  clear hmade
  have heq := fun w => Lib.run_eql_slice_nil (P := Tryz.prog) w 161 5 (some ad) bs.length c 0 0 Tryz.underlying161
  go_enter Tryz.func71, Tryz.ntmps71
  go_wp2_with (at_builtin; refine wpList_append_own_at _ rfl (.tmp 5) (.tmp 6) 161 rfl w.heap.size 5 i0 (.int .u8 0) 1 1 Tryz.underlying161 hi0 hz0 hz1 hz2 rfl (by decide) (.slice (some ⟨w.heap.size, 0, none⟩) 0 0) 0 [] (by simp [Act.eval]) HM.out ad bs.length c (by8 bs) (by simp [Act.eval]) (by simp [by8_len]) (hsrc.out _ ((Keep.refl Nil w).alloc _)) h1c.out (by unfold maxLen; omega) (by omega) (by simp) ?_; intro v1 w1 hown1 hgr1 _ hat1)
  have k1 : Keep Nil w w1 := ((Keep.refl Nil w).alloc _).trans (Keep.of_grown hgr1) (fun b hb e => by
    have : w.heap.size = b := by simpa [Value.ownBlock] using e
    omega)
  have HO := Hid.intro_ hown1
  clear hown1 hgr1
  go_wp2
  go_ret
  refine ⟨v1, rfl, BsAt.of_own (n := 0 + bs.length) (by simpa using HO.out) (by simp) (fun g hg => (HO.out.lt g hg).1), k1⟩

theorem clone_any (H : Nat → Prop) (v : Value) (bs : List Int) (w : World) (h : BsAt w H v bs) (h1 : 1 ≤ bs.length) (h2 : bs.length ≤ 65536) :
    Calls Tryz.prog 71 #[v] w fun e w' => ∃ u, e = .returned u ∧ BsAt w' (fun b => w.heap.size ≤ b) u bs ∧ Keep Nil w w' := by
  obtain ⟨A, c, rfl, hc, hr, hi, ht⟩ := h.out
  obtain ⟨x, hx⟩ : ∃ x, (by8 bs)[0]? = some x := ⟨_, List.getElem?_eq_getElem (by rw [by8_len]; omega)⟩
  obtain ⟨ad, rfl, _⟩ := hr 0 x hx
  exact clone_rd ad c bs w hr h2

/-- A setup that may be. -/
def fitsS (block blocks : Int) : Bool := decide (block % 32 = 0) && decide (64 ≤ block) && decide (block ≤ 65536) && decide (0 ≤ blocks) && decide (blocks ≤ 1099511627776)

def newD (block blocks : Int) : DSt := { on := true, block := block, room := blocks, files := [], trs := [], calls := 0, reads := 0, appends := 0, faults := 0, full := 0, used := 0, most := 0 }

set_option maxRecDepth 100000 in
set_option maxHeartbeats 2000000 in
theorem clone_tr_nil (w : World) :
    Calls Tryz.prog 181 #[.slice none 0 0] w fun e w' => e = .returned (.slice none 0 0) ∧ w' = w := by
  have heq := fun w => Lib.run_eql_slice_nil (P := Tryz.prog) w 131 290 none 0 0 0 0 Tryz.underlying131
  go_enter Tryz.func181, Tryz.ntmps181
  go_wp2
  go_ret
  exact ⟨rfl, rfl⟩

set_option maxRecDepth 100000 in
set_option maxHeartbeats 2000000 in
theorem fits_ok (block blocks : Int) (v : Value) (w : World) (_hv : v.oneCell' = true) (h1 : 64 ≤ block) (h2 : block ≤ 65536) (h3 : block % 32 = 0) (h4 : 0 ≤ blocks) (h5 : blocks ≤ 1099511627776) :
    Calls Tryz.prog 180 #[.agg #[.int .i64 block, .int .i64 blocks, v]] w fun e w' => e = .returned (.bool true) ∧ Keep Nil w w' := by
  have e3 : (block % 32 == 0) = true := by simpa using h3
  go_enter Tryz.func180, Tryz.ntmps180
  go_wp2
  go_ret
  exact ⟨rfl, (Keep.refl Nil w).alloc _⟩

theorem heap_new (w : World) (o : Obj) : (w.alloc o).heap[w.heap.size]? = some o := by unfold World.alloc; simp
theorem new_disk {block blocks : Int} {w w1 w2 : World} (h1 : 64 ≤ block) (h2 : block ≤ 65536) (h4 : 0 ≤ blocks) (h5 : blocks ≤ 1099511627776)
    (hm : w2.heap[w1.heap.size]? = some (.map #[] 0)) (hb : Blk w2 (w1.heap.size + 1) 153 ((newD block blocks).cells { mb := w1.heap.size, reps := [], tb := none, tc := 0 })) (hl : w.heap.size ≤ w1.heap.size) (hl2 : w1.heap.size + 1 < w2.heap.size) :
    DiskAt w2 (fun b => w.heap.size ≤ b ∧ b < w2.heap.size) (w1.heap.size + 1) (newD block blocks) { mb := w1.heap.size, reps := [], tb := none, tc := 0 } := {
  blk := hb
  fd := ⟨by omega, hl2⟩
  fm := ⟨hl, by show w1.heap.size < _; omega⟩
  map := ⟨#[], 0, hm, rfl, Go.MapKept.stamped_empty 0⟩
  len := rfl
  fbs := List.nodup_nil
  file := fun i f r hf => by simp [newD] at hf
  row := fun i j r s g hr => by simp at hr
  trs := fun j u hu => by simp [newD, trCells] at hu
  ftr := fun b e => by cases e
  tcl := Nat.zero_le _
  tcm := Nat.zero_le _
  lt := fun b hb => hb.2
  ok := ⟨h1, h2, h4, h5, rfl, h4, h4, Int.le_refl _, fun f hf => by simp [newD] at hf, fun f hf => by simp [newD] at hf, List.nodup_nil⟩ }

set_option maxRecDepth 100000 in
set_option maxHeartbeats 2000000 in
theorem new_ok (block blocks : Int) (w : World) (h1 : 64 ≤ block) (h2 : block ≤ 65536) (h3 : block % 32 = 0) (h4 : 0 ≤ blocks) (h5 : blocks ≤ 1099511627776) :
    Calls Tryz.prog 120 #[.agg #[.int .i64 block, .int .i64 blocks, .slice none 0 0]] w fun e w' => ∃ d mb, e = .returned (.tuple #[.pointer (some ⟨d, 0, none⟩), .int .i64 0]) ∧ DiskAt w' (fun b => w.heap.size ≤ b ∧ b < w'.heap.size) d (newD block blocks) { mb := mb, reps := [], tb := none, tc := 0 } ∧ w'.heap[mb]? = some (.map #[] 0) ∧ Keep Nil w w' := by
  have hf := fun W => fits_ok block blocks (.slice none 0 0) W rfl h1 h2 h3 h4 h5
  have HF := Hid.intro_ hf
  clear hf
  go_enter Tryz.func120, Tryz.ntmps120
  have hmm := @run_makeMap Tryz.prog
  go_wp2_with (go_at_call 180; refine (HF.out _).mono ?_; rintro e w1 ⟨rfl, k1⟩)
  have b1 := (Blk.new w 136 #[.int .i64 block, .int .i64 blocks, .slice none 0 0]).keep k1 (fun h => h)
  have z0 : w1.cell? ⟨w.heap.size, 0, none⟩ = some (.int .i64 block) := b1.at_ 0
  have z1 : w1.cell? ⟨w.heap.size, 1, none⟩ = some (.int .i64 blocks) := b1.at_ 1
  have z2 : w1.cell? ⟨w.heap.size, 2, none⟩ = some (.slice none 0 0) := b1.at_ 2
  have n0 := World.new_ne w1 _ z0
  have n1 := World.new_ne w1 _ z1
  have n2 := World.new_ne w1 _ z2
  have l0 := b1.lt
  go_region_held3 (fun w' => w'.cell? ⟨w.heap.size, 0, none⟩ = some (.int .i64 block) ∧ w'.cell? ⟨w.heap.size, 1, none⟩ = some (.int .i64 blocks) ∧ w'.cell? ⟨w.heap.size, 2, none⟩ = some (.slice none 0 0))
    (first | exact ⟨z0, z1, z2⟩ | go_keep)
    ((go_at_call 181; refine (clone_tr_nil _).mono ?_; rintro e w' ⟨rfl, hw⟩; obtain rfl := hw.symm))
  all_goals
    go_wp2
    go_ret2
    refine ⟨w1.heap.size + 1, w1.heap.size, rfl, ?_, ?_, ?_⟩
    · refine new_disk (w1 := w1) h1 h2 h4 h5 ?_ ?_ ?_ ?_
      · exact (Below.heap_alloc _ _ _ (by simp)).trans (heap_new w1 _)
      · exact Blk.new_at _ _ _ (by simp)
      · exact Nat.le_of_lt l0
      · simp
    · exact (Below.heap_alloc _ _ _ (by simp)).trans (heap_new w1 _)
    · exact ((Keep.refl Nil w).alloc _).then_ (k1.then_ (((Keep.refl Nil w1).alloc _).alloc _).drew)
end Go.Proofs.YtadipinnbehhhaaGreatDoor
