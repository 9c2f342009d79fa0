/- Parts of the proof: PathO PathX PathY RoundW. -/
import Derived.RangeFuncNested
import Derived.RangeFuncBound
import Derived.RangeFuncCalls
import Derived.RangeFuncLeaves
import Derived.OrdersIn
import Derived.OrdersHeld
import Derived.TacticsIn
import Derived.Test.YtadipinnbehhhaaGreatDoorCubesRowBA
import Derived.Test.YtadipinnbehhhaaGreatDoorCubesRowAP
namespace Go.Proofs.YtadipinnbehhhaaGreatDoor
open Go.RowKit

section
variable {X : KX} {Z Z' : Nat → Prop} {pb tb tn : Nat} {old new : List Int} {o : Option (Nat × List Int)} {w w1 w' : World} {fs : List (ByteArray × AFile)} {τ : Int}
theorem PsNew.fresh (p : PsNew X Z pb o w) {z : Nat} (hz : w.heap.size ≤ z) : Off X.c.E (fun _ => False) z ∧ X.Y.heap.size ≤ z := by
  obtain ⟨G, s, j, cb, b, x, q, h1, h2, h3, h4⟩ := p.out
  have := h1.keep.size
  exact ⟨⟨fun h => h, (Off.new h2.env h2.lt hz).2⟩, by omega⟩
theorem PsOpen.fresh (p : PsOpen X Z pb o w) {z : Nat} (hz : w.heap.size ≤ z) : Off X.c.E (fun _ => False) z ∧ X.Y.heap.size ≤ z := by
  obtain ⟨G, s, j, cb, b, x, y, q, rem, h1, h2, h3, h4, h5⟩ := p.out
  have := h1.keep.size
  exact ⟨⟨fun h => h, (Off.new h2.env h2.lt hz).2⟩, by omega⟩
theorem PsShut.fresh (p : PsShut X Z pb o w) {z : Nat} (hz : w.heap.size ≤ z) : Off X.c.E (fun _ => False) z ∧ X.Y.heap.size ≤ z := by
  obtain ⟨G, s, j, root, h1, h2, h3⟩ := p.out
  have := h1.keep.size
  exact ⟨⟨fun h => h, (Off.new h2.env h2.lt hz).2⟩, by omega⟩
theorem PsOpen.turn (p : PsOpen X Z pb o w) {z0 : Nat} (k : Keep (fun z => z = z0) w w') (hz : Z z0) (hE : Off X.c.E (fun _ => False) z0) (hY : X.Y.heap.size ≤ z0) : PsOpen X Z pb o w' := by
  obtain ⟨G, s, j, cb, b, x, y, q, rem, h1, h2, h3, h4, h5⟩ := p.out
  obtain ⟨tv, b1, b2, b3, b4⟩ := h5.out
  have hza := h5.za.off z0 hz
  refine ⟨G, s, j, cb, b, x, y, q, rem, h1.own k (fun z e => by rw [show z = z0 from e]; exact hY), h2.keep k (fun z e => by rw [show z = z0 from e]; exact ⟨hza.1, hE.2⟩), h3, h4, ⟨tv, b1.keep k (fun e => hza.2.2 e.symm), b2, b3, b4.keep k (fun z e _ tb t e2 => by rw [show z = z0 from e]; exact h5.za.txt z0 hz tb t e2) (fun _ h _ => h)⟩, h5.za.keep k⟩
theorem PsOpen.calm (p : PsOpen X Z pb o w) : PsOpen X Z pb o (w.setCell ⟨pb, 5, none⟩ (.int .i64 0)) ∧ Keep (fun z => ¬ Z z) w (w.setCell ⟨pb, 5, none⟩ (.int .i64 0)) := by
  obtain ⟨G, s, j, cb, b, x, y, q, rem, h1, h2, h3, h4, h5⟩ := p.out
  obtain ⟨tv, b1, b2, b3, b4⟩ := h5.out
  have k : Keep (fun z => z = pb) w (w.setCell ⟨pb, 5, none⟩ (.int .i64 0)) := (Keep.refl (fun z => z = pb) w).setCell (p := ⟨pb, 5, none⟩) (fun _ => rfl) _
  have hb : Blk (w.setCell ⟨pb, 5, none⟩ (.int .i64 0)) pb 286 (pthV X.c X.name (.pointer (some ⟨cb, 0, none⟩)) X.d.r tv) := b1.set_ 5 (.int .i64 0)
  refine ⟨⟨G, s, j, cb, b, x, y, q, rem, h1.own k (fun z e => by rw [show z = pb from e]; exact b3), h2.keep k (fun z e => by rw [show z = pb from e]; exact b2), h3, h4, ⟨tv, hb, b2, b3, b4.keep k (fun z e _ tb t e2 => ?_) (fun _ h _ => h)⟩, h5.za.keep k⟩, h5.za.keepb k⟩
  rw [show z = pb from e]
  exact fun e3 => (b4.yes tb t e2).2.2.2.2.2.2 e3.symm
theorem PsOpen.cells (p : PsOpen X Z pb o w) : ∃ cb tv, Blk w pb 286 (pthV X.c X.name (.pointer (some ⟨cb, 0, none⟩)) X.d.r tv) ∧ ∀ tb t, o = some (tb, t) → tv = .slice (some ⟨tb, 0, none⟩) X.d.v X.d.v ∧ RowV w tb 5 (by8 t) ∧ t.length = X.d.v ∧ Txt3 t ∧ Off X.c.E (fun _ => False) tb ∧ X.Y.heap.size ≤ tb ∧ ¬ tb = pb := by
  obtain ⟨G, s, j, cb, b, x, y, q, rem, h1, h2, h3, h4, h5⟩ := p.out
  obtain ⟨tv, b1, b2, b3, b4⟩ := h5.out
  exact ⟨cb, tv, b1, fun tb t e => by
    obtain ⟨q1, q2, q3, q4, q5, q6, q7⟩ := b4.yes tb t e
    exact ⟨q1, q2, q3, q4, ⟨fun h => h, q5.2⟩, q6, q7⟩⟩
theorem PsShut.cells (p : PsShut X Z pb o w) : ∃ root tv, Blk w pb 286 (pthV X.c X.name (.pointer none) root tv) ∧ (o = none → tv = .slice none 0 0) := by
  obtain ⟨G, s, j, root, h1, h2, h3⟩ := p.out
  obtain ⟨tv, b1, b2, b3, b4⟩ := h3.out
  exact ⟨root, tv, b1, b4.no⟩
theorem PsNew.retext (p : PsNew X Z pb (some (tb, old)) w) (k : Keep Nil w w1) (hr : RowV w1 tn 5 (by8 (blankL X.d.v))) (hn : w.heap.size ≤ tn) (hZ : ∀ x, Z' x → (Z x ∨ x = tb ∨ (w.heap.size ≤ x ∧ x < w1.heap.size)) ∧ ¬ x = tn) :
    PsNew X Z' pb (some (tn, blankL X.d.v)) (w1.setCell ⟨pb, 4, none⟩ (.slice (some ⟨tn, 0, none⟩) X.d.v X.d.v)) := by
  obtain ⟨G, s, j, cb, b, x, q, h1, h2, h3, h4⟩ := p.out
  obtain ⟨tv, b1, b2, b3, b4⟩ := h4.out
  obtain ⟨q1, q2, q3, q4, q5, q6, q7⟩ := b4.yes tb old rfl
  have kx : Keep (fun z => z = pb) w1 (w1.setCell ⟨pb, 4, none⟩ (.slice (some ⟨tn, 0, none⟩) X.d.v X.d.v)) := (Keep.refl (fun z => z = pb) w1).setCell (p := ⟨pb, 4, none⟩) (fun _ => rfl) _
  have kt : Keep (fun z => z = pb) w (w1.setCell ⟨pb, 4, none⟩ (.slice (some ⟨tn, 0, none⟩) X.d.v X.d.v)) := (k.mono (fun _ _ h => h.elim)).then_ kx
  have hpl := b1.lt
  have hYs := h1.keep.size
  have hb : Blk (w1.setCell ⟨pb, 4, none⟩ (.slice (some ⟨tn, 0, none⟩) X.d.v X.d.v)) pb 286 (pthV X.c X.name (.pointer (some ⟨cb, 0, none⟩)) X.d.r (.slice (some ⟨tn, 0, none⟩) X.d.v X.d.v)) := (b1.keep k (fun h => h)).set_ 4 _
  have hpt : ¬ tn = pb := by omega
  refine ⟨G, s, j, cb, b, x, q, h1.own kt (fun z e => by rw [show z = pb from e]; exact b3), h2.keep kt (fun z e => by rw [show z = pb from e]; exact b2), h3, ⟨_, hb, b2, b3, ⟨(fun h => by cases h), fun tb' t' e => ?_⟩⟩, ⟨fun z hz => ?_, fun z hz tb' t' e => ?_⟩⟩
  · injection e with e
    injection e with e1 e2
    subst e1 e2
    exact ⟨rfl, hr.keep kx hpt, by simp [blankL], Txt3.blank _, Off.new h2.env h2.lt hn, by omega, hpt⟩
  · have hsz := kt.size
    rcases (hZ z hz).1 with h9 | h9 | ⟨h9, h10⟩
    · have := h4.za.off z h9
      exact ⟨this.1, by omega, this.2.2⟩
    · subst h9
      exact ⟨q5.1, by have := q2.lt; omega, q7⟩
    · exact ⟨fun hg => by have := h2.lt z hg; omega, by have := kx.size; omega, by omega⟩
  · injection e with e
    injection e with e1 _
    rw [← e1]
    exact (hZ z hz).2
theorem pwalk_next {tc ob bx to_ : Nat} (P : PxOk X fs) (p : PsNew X Z pb (some (tn, blankL X.d.v)) w) (hz : ∀ z, (z = tc ∨ z = ob ∨ z = bx ∨ z = to_) → Z z ∧ Off X.c.E (fun _ => False) z ∧ X.Y.heap.size ≤ z)
    (htc : Blk w tc 3 #[.int .i64 τ]) (hob : Blk w ob 161 #[.slice (some ⟨to_, 0, none⟩) X.d.v X.d.v]) (hbx : Blk w bx 284 #[.pointer (some ⟨pb, 0, none⟩)]) (hto : RowV w to_ 5 (by8 old)) (hlen : old.length = X.d.v)
    (hrun : runN3 X.d.P (turnG old τ) 65537 X.d.r (blankL X.d.v) = new) (hok : okN X.d.P old τ 65537 X.d.r) (h3 : Txt3 new) (hZ : ∀ z, Z' z → Z z ∧ ¬ (z = tc ∨ z = ob ∨ z = bx ∨ z = to_)) :
    ∃ cb tv, Blk w pb 286 (pthV X.c X.name (.pointer (some ⟨cb, 0, none⟩)) X.d.r tv) ∧ ∀ V, Keep Nil w V → Calls Tryz.prog 220 #[.pointer (some ⟨cb, 0, none⟩), .int .u64 X.d.r, .func (.func 221) #[] #[.pointer (some ⟨tc, 0, none⟩), .pointer (some ⟨ob, 0, none⟩), .pointer (some ⟨bx, 0, none⟩)]] V fun e w' => ∃ p : Nat, e = .returned (.tuple #[.int .u64 p, .int .i64 0]) ∧ Blk w' bx 284 #[.pointer (some ⟨pb, 0, none⟩)] ∧ PsOpen X Z' pb (some (tn, new)) w' ∧ Keep (fun z => ¬ Z' z) w w' ∧
      (w'.cell? ⟨pb, 2, none⟩ = some (.pointer (some ⟨cb, 0, none⟩)) ∧ w'.cell? ⟨pb, 3, none⟩ = some (.int .u64 X.d.r)) := by
  obtain ⟨G, s, j, cb, b, x, q, h1, h2, hv3, h4⟩ := p.out
  obtain ⟨tv, b1, b2, b3, b4⟩ := h4.out
  obtain ⟨q1, q2, q3, q4, q5, q6, q7⟩ := b4.yes tn _ rfl
  subst q1
  refine ⟨cb, _, b1, fun V kV => ?_⟩
  have hHo : ∀ z, NxH tc ob bx pb to_ tn z → Off X.c.E G z := fun z hzz => by
    have key : (z = tc ∨ z = ob ∨ z = bx ∨ z = to_) → Off X.c.E G z := fun h => ⟨(h4.za.off z (hz z h).1).1, (hz z h).2.1.2⟩
    rcases hzz with e | e | e | e | e | e
    · exact key (.inl e)
    · exact key (.inr (.inl e))
    · exact key (.inr (.inr (.inl e)))
    · rw [e]; exact b2
    · exact key (.inr (.inr (.inr e)))
    · rw [e]; exact q5
  have hHY : ∀ z, NxH tc ob bx pb to_ tn z → X.Y.heap.size ≤ z := fun z hzz => by
    rcases hzz with e | e | e | e | e | e
    · exact (hz z (.inl e)).2.2
    · exact (hz z (.inr (.inl e))).2.2
    · exact (hz z (.inr (.inr (.inl e)))).2.2
    · rw [e]; exact b3
    · exact (hz z (.inr (.inr (.inr e)))).2.2
    · rw [e]; exact q6
  have hHl : ∀ z, NxH tc ob bx pb to_ tn z → z < V.heap.size := fun z hzz => by
    have := kV.size
    have := b1.lt
    have := q2.lt
    have := htc.lt
    have := hob.lt
    have := hbx.lt
    have := hto.lt
    rcases hzz with e | e | e | e | e | e <;> rw [e] <;> omega
  have hne : ∀ z, (z = tc ∨ z = ob ∨ z = bx ∨ z = to_) → ¬ tn = z := fun z h e => h4.za.txt z (hz z h).1 tn _ rfl e.symm
  let Xi := twX X.c X.name X.d cb b G s (NxH tc ob bx pb to_ tn) V q
  have hcu : CuK Xi 0 V := twX_start (h2.nil kV) hv3 (Nat.le_refl _) (fun z hzz => ⟨(hHo z hzz).1, hHl z hzz⟩) (fun z hzz => ⟨fun h => h, (hHo z hzz).2⟩)
  have hko : KOk Xi fs := twX_ok P.P h1.went
  have hdec : DecI Xi (turnG old τ) 221 #[.pointer (some ⟨tc, 0, none⟩), .pointer (some ⟨ob, 0, none⟩), .pointer (some ⟨bx, 0, none⟩)] (NxI X.d old τ new tc ob bx pb to_ tn X.c X.name (.pointer (some ⟨cb, 0, none⟩)) X.d.r) :=
    ⟨fun a b c W => next_enters _ _ _ a b c W, fun p W W' h k => h.far k, fun n W hn h64 _ _ hi => (next_clo P.P.ok hlen ⟨hne tc (.inl rfl), hne ob (.inr (.inl rfl)), hne bx (.inr (.inr (.inl rfl))), q7, hne to_ (.inr (.inr (.inr rfl)))⟩ n hn h64 hi).mono fun e w' ⟨a, b, c⟩ => ⟨a, b, c⟩⟩
  have hI0 : NxI X.d old τ new tc ob bx pb to_ tn X.c X.name (.pointer (some ⟨cb, 0, none⟩)) X.d.r X.d.r V :=
    ⟨⟨blankL X.d.v, 65537, q2.keep kV (fun h => h), by simp [blankL], hrun, hok, Fu.start _, P.P.ok.root⟩, htc.keep kV (fun h => h), hob.keep kV (fun h => h), hbx.keep kV (fun h => h), b1.keep kV (fun h => h), hto.keep kV (fun h => h)⟩
  refine (twalk_any Xi hko rfl P.P.ok (turnG old τ) _ _ _ hdec hcu hI0 (fun z hzz => hHl z hzz)).mono fun e w' ⟨p, k, he, hs, hi, hc⟩ => ?_
  obtain ⟨t, f, ha, hb, hrn, _⟩ := hi.out
  rw [run_leaf hs] at hrn
  subst hrn
  obtain ⟨G', s', x', q', j', i1, _, hca, hrl⟩ := hc.out
  have hk := h1.inner kV i1 rfl rfl rfl hHY
  rw [Int.add_zero] at hk
  have ho' : ∀ z, NxH tc ob bx pb to_ tn z → Off X.c.E G' z := fun z hzz => ⟨(i1.off z hzz).1, (hHo z hzz).2⟩
  have hZ9 : ∀ z, Z' z → ¬ NxH tc ob bx pb to_ tn z := fun z hzz h9 => by
    have h8 := hZ z hzz
    rcases h9 with e | e | e | e | e | e
    · exact h8.2 (.inl e)
    · exact h8.2 (.inr (.inl e))
    · exact h8.2 (.inr (.inr (.inl e)))
    · exact (h4.za.off z h8.1).2.2 e
    · exact h8.2 (.inr (.inr (.inr e)))
    · exact h4.za.txt z h8.1 tn _ rfl e
  have hkz : Keep (fun z => ¬ Z' z) w w' := by
    refine (kV.mono (fun _ _ h => h.elim : ∀ z, z < w.heap.size → Nil z → ¬ Z' z)).trans i1.keep (fun z _ hg hZz => ?_)
    rcases hg with hg | hg
    · exact (h4.za.off z (hZ z hZz).1).1 hg
    · exact hZ9 z hZz hg
  refine ⟨p, he, hi.box, ⟨G', s', _, cb, b, x', _, q', _, hk, hca, rfl, hrl, ⟨.slice (some ⟨tn, 0, none⟩) X.d.v X.d.v, hi.pth, ho' _ (.inr (.inr (.inr (.inl rfl)))), b3, ⟨(fun h => by cases h), fun tb' t' e => ?_⟩⟩, ⟨fun z hZz => ?_, fun z hZz tb' t' e => ?_⟩⟩, hkz, hi.pth.at_ 2, hi.pth.at_ 3⟩
  · injection e with e
    injection e with e1 e2
    subst e1 e2
    exact ⟨rfl, ha, hb, h3, ho' _ (.inr (.inr (.inr (.inr (.inr rfl))))), q6, q7⟩
  · have hzo := h4.za.off z (hZ z hZz).1
    refine ⟨fun hg => ?_, Nat.lt_of_lt_of_le hzo.2.1 hkz.size, hzo.2.2⟩
    rcases i1.grow z hg with h9 | h9
    · exact hzo.1 h9
    · have h9 : V.heap.size ≤ z := h9
      have := kV.size
      omega
  · injection e with e
    injection e with e1 _
    rw [← e1]
    exact h4.za.txt z (hZ z hZz).1 tn _ rfl
end
end Go.Proofs.YtadipinnbehhhaaGreatDoor
namespace Go.Proofs.YtadipinnbehhhaaGreatDoor
open Go.RowKit

section
variable {X : KX} {Z Z' : Nat → Prop} {pb tb : Nat} {old new : List Int} {o : Option (Nat × List Int)} {w w1 w' : World} {fs : List (ByteArray × AFile)} {i : Nat}
theorem PsOpen.zlt (p : PsOpen X Z pb o w) : ∀ z, Z z → z < w.heap.size := by
  obtain ⟨G, s, j, cb, b, x, y, q, rem, h1, h2, h3, h4, h5⟩ := p.out
  exact fun z hz => (h5.za.off z hz).2.1
theorem PsShut.zlt (p : PsShut X Z pb o w) : ∀ z, Z z → z < w.heap.size := by
  obtain ⟨G, s, j, root, h1, h2, h3⟩ := p.out
  exact fun z hz => (h3.za.off z hz).2.1
theorem PsOpen.zne (p : PsOpen X Z pb o w) : ∀ z, Z z → ¬ z = pb ∧ ∀ tb t, o = some (tb, t) → ¬ z = tb := by
  obtain ⟨G, s, j, cb, b, x, y, q, rem, h1, h2, h3, h4, h5⟩ := p.out
  exact fun z hz => ⟨(h5.za.off z hz).2.2, h5.za.txt z hz⟩
theorem PsOpen.begins (P : PxOk X fs) (p : PsOpen X Z pb (some (tb, old)) w) :
    Calls Tryz.prog 217 #[.pointer (some ⟨pb, 0, none⟩)] w fun e w' => e = .returned (.bool true) ∧ Keep (fun z => ¬ Z z) w w' ∧ PsNew X Z pb (some (tb, old)) w' :=
  (pbegin P (pend_open P p) p.zlt).mono fun e w' ⟨he, hk, o', hp, h1, _⟩ => ⟨he, hk, by rw [h1 _ rfl] at hp; exact hp⟩
theorem PsShut.begins (P : PxOk X fs) (p : PsShut X Z pb none w) :
    Calls Tryz.prog 217 #[.pointer (some ⟨pb, 0, none⟩)] w fun e w' => e = .returned (.bool true) ∧ Keep (fun z => ¬ Z z) w w' ∧ ∃ tb, PsNew X Z pb (some (tb, blankL X.d.v)) w' :=
  (pbegin (o := none) P ((pend_shut p).mono fun e w' ⟨he, hw⟩ => ⟨he, by rw [hw]; exact p, by rw [hw]; exact Keep.refl _ _⟩) p.zlt).mono fun e w' ⟨he, hk, o', hp, _, h1⟩ => by
    obtain ⟨tb, e1⟩ := h1 rfl
    rw [e1] at hp
    exact ⟨he, hk, tb, hp⟩
set_option maxRecDepth 100000 in
set_option maxHeartbeats 16000000 in
theorem pnext_go (P : PxOk X fs) (p : PsOpen X Z pb (some (tb, old)) w) (hi : X.d.cubes[i]? = some old) (hn : X.d.cubes[i + 1]? = some new) :
    Calls Tryz.prog 179 #[.pointer (some ⟨pb, 0, none⟩)] w fun e w' => e = .returned (.bool true) ∧ (∃ tn, PsOpen X Z pb (some (tn, new)) w') ∧ Keep (fun z => ¬ Z z) w w' := by
  obtain ⟨hτ0, hrun, hok⟩ := (P.P.ok.next_c hi).1 new hn
  have hroot : ¬ X.d.r = 9223372036854775808 := fun e => by rw [DgOk.none_c e] at hi; simp at hi
  have h3n : Txt3 new := by rw [← hrun]; exact Txt3.run _ _ (Txt3.blank _)
  obtain ⟨τ, hτ⟩ : ∃ τ, τ = X.d.turnC old := ⟨_, rfl⟩
  rw [← hτ] at hτ0 hrun hok
  have hrun2 : runN3 X.d.P (turnG old τ) 65537 X.d.r (blankL X.d.v) = new := hrun
  obtain ⟨v, hv⟩ : ∃ v, v = X.d.v := ⟨_, rfl⟩
  obtain ⟨r, hr⟩ : ∃ r, r = X.d.r := ⟨_, rfl⟩
  obtain ⟨W1, hW1⟩ : ∃ W1, W1 = w.alloc (.cells #[.pointer (some ⟨pb, 0, none⟩)] 284) := ⟨_, rfl⟩
  have k1 : Keep Nil w W1 := by rw [hW1]; exact (Keep.refl Nil w).alloc _
  have hW1s : W1.heap.size = w.heap.size + 1 := by rw [hW1]; simp
  have bB : Blk W1 w.heap.size 284 #[.pointer (some ⟨pb, 0, none⟩)] := by rw [hW1]; exact Blk.new w _ _
  have p1 : PsOpen X (fun z => Z z ∨ z = w.heap.size) pb (some (tb, old)) W1 := p.more k1 (fun x hx => hx.elim .inl (fun e => .inr ⟨by omega, by omega⟩))
  obtain ⟨cb0, tv0, b0, htx⟩ := p1.cells
  obtain ⟨q1, q2, q3, q4, q5, q6, q7⟩ := htx tb old rfl
  subst q1
  have HB1 := Hid.intro_ (p1.begins P)
  have hfx := Hid.intro_ (p.fresh (Nat.le_refl _))
  have c0 : W1.cell? ⟨w.heap.size, 0, none⟩ = some (.pointer (some ⟨pb, 0, none⟩)) := bB.at_ 0
  have c4 : W1.cell? ⟨pb, 4, none⟩ = some (.slice (some ⟨tb, 0, none⟩) v v) := by rw [hv]; exact b0.at_ 4
  have hse := some_eq tb v W1
  have HBB := Hid.intro_ bB
  have K1 := Hid.intro_ k1
  have HTB := Hid.intro_ (And.intro q2 (And.intro q3 (And.intro q5 q6)))
  have HP := Hid.intro_ P
  have HV := Hid.intro_ hv
  have HR := Hid.intro_ hr
  have HTAU := Hid.intro_ hτ
  have HRUN := Hid.intro_ hrun2
  have HOK := Hid.intro_ hok
  have H3N := Hid.intro_ h3n
  have HTBP := Hid.intro_ (show ∀ z, Z z → z < w.heap.size from p.zlt)
  have HZNE := Hid.intro_ (show ∀ z, Z z → ¬ z = pb ∧ ¬ z = tb from fun z hz => ⟨(p.zne z hz).1, (p.zne z hz).2 tb old rfl⟩)
  have hv16 : v ≤ 65536 := by rw [hv]; exact P.P.ok.rows.vars
  have hrq : ((r : Int) == 9223372036854775808) = false := by
    have : ¬ (r : Int) = 9223372036854775808 := by rw [hr]; omega
    simpa using this
  have hτn : ¬ τ < 0 := by omega
  clear P p hi hn hrun hrun2 hok hroot h3n hτ hv hr k1 bB p1 b0 htx q2 q3 q4 q5 q6 q7 hτ0
  go_enter Tryz.func179, Tryz.ntmps179
  go_upto_region 1 with (fail)
  rw [← hW1]
  clear hW1
  go_wp2_with fail
  refine HB1.out.mono ?_
  rintro e w2 ⟨rfl, k2, pn2⟩
  have bB2 := HBB.out.keep k2 (fun h => h (.inr rfl))
  have d0 : w2.cell? ⟨w.heap.size, 0, none⟩ = some (.pointer (some ⟨pb, 0, none⟩)) := bB2.at_ 0
  obtain ⟨W3, hW3⟩ : ∃ W3, W3 = w2.alloc (.cells #[.int .i64 (-1)] 3) := ⟨_, rfl⟩
  have k3 : Keep Nil w2 W3 := by rw [hW3]; exact (Keep.refl Nil w2).alloc _
  have hW3s : W3.heap.size = w2.heap.size + 1 := by rw [hW3]; simp
  have bT : Blk W3 w2.heap.size 3 #[.int .i64 (-1)] := by rw [hW3]; exact Blk.new w2 _ _
  have pn3 : PsNew X (fun z => (Z z ∨ z = w.heap.size) ∨ z = w2.heap.size) pb (some (tb, old)) W3 := pn2.more k3 (fun x hx => hx.elim .inl (fun e => .inr ⟨by omega, by omega⟩))
  have hls := plast HP.out pn3
  rw [← HTAU.out] at hls
  have HLS := Hid.intro_ hls
  have hft := Hid.intro_ (pn2.fresh (Nat.le_refl _))
  have d1 : W3.cell? ⟨w.heap.size, 0, none⟩ = some (.pointer (some ⟨pb, 0, none⟩)) := (bB2.keep k3 (fun h => h)).at_ 0
  have HBB3 := Hid.intro_ (bB2.keep k3 (fun h => h))
  have HBT3 := Hid.intro_ bT
  have K2 := Hid.intro_ k2
  have K3 := Hid.intro_ k3
  clear HB1 k2 pn2 bB2 k3 bT pn3 c0 c4 hse hls
  go_upto_region 6 with (fail)
  rw [← hW3]
  clear hW3
  go_wp2_with fail
  refine HLS.out.mono ?_
  rintro e w4 ⟨rfl, po4, k4⟩
  have bB4 := HBB3.out.keep k4 (fun h => h (.inl (.inr rfl)))
  have bT4 := HBT3.out.keep k4 (fun h => h (.inr rfl))
  have d2 : w4.cell? ⟨w.heap.size, 0, none⟩ = some (.pointer (some ⟨pb, 0, none⟩)) := bB4.at_ 0
  have e2 : w4.cell? ⟨w2.heap.size, 0, none⟩ = some (.int .i64 (-1)) := bT4.at_ 0
  have f2 := bT4.fr 0
  have nbt : ¬ w.heap.size = w2.heap.size := by
    have := HBB3.out.lt
    have := K2.out.size
    omega
  have nbt2 : ¬ w2.heap.size = w.heap.size := fun e => nbt e.symm
  obtain ⟨W5, hW5⟩ : ∃ W5, W5 = w4.setCell ⟨w2.heap.size, 0, none⟩ (.int .i64 τ) := ⟨_, rfl⟩
  have k5 : Keep (fun z => z = w2.heap.size) w4 W5 := by rw [hW5]; exact (Keep.refl (fun z => z = w2.heap.size) w4).setCell (p := ⟨w2.heap.size, 0, none⟩) (fun _ => rfl) _
  have bT5 : Blk W5 w2.heap.size 3 #[.int .i64 τ] := by rw [hW5]; exact bT4.set_ 0 _
  have bB5 := bB4.keep k5 (fun e => nbt e)
  have po5 := po4.turn k5 (.inr rfl) hft.out.1 hft.out.2
  have HB2 := Hid.intro_ (po5.begins HP.out)
  have HBB5 := Hid.intro_ bB5
  have HBT5 := Hid.intro_ bT5
  have K4 := Hid.intro_ k4
  have K5 := Hid.intro_ k5
  clear HLS po4 k4 bB4 bT4 k5 bT5 bB5 po5 d0 d1
  go_wp2_with fail
  rw [← hW5]
  clear hW5
  refine HB2.out.mono ?_
  rintro e w6 ⟨rfl, k6, pn6⟩
  have bB6 := HBB5.out.keep k6 (fun h => h (.inl (.inr rfl)))
  have bT6 := HBT5.out.keep k6 (fun h => h (.inr rfl))
  obtain ⟨cb6, tv6, b6, htx6⟩ := pn6.open_.cells
  obtain ⟨q1, q2, q3, q4, q5, q6, q7⟩ := htx6 tb old rfl
  subst q1
  have g0 : w6.cell? ⟨w.heap.size, 0, none⟩ = some (.pointer (some ⟨pb, 0, none⟩)) := bB6.at_ 0
  have g3 : w6.cell? ⟨pb, 3, none⟩ = some (.int .u64 r) := by rw [HR.out]; exact b6.at_ 3
  have g4 : w6.cell? ⟨pb, 4, none⟩ = some (.slice (some ⟨tb, 0, none⟩) v v) := by rw [HV.out]; exact b6.at_ 4
  obtain ⟨W7, hW7⟩ : ∃ W7, W7 = w6.alloc (.cells #[.slice (some ⟨tb, 0, none⟩) v v] 161) := ⟨_, rfl⟩
  have k7 : Keep Nil w6 W7 := by rw [hW7]; exact (Keep.refl Nil w6).alloc _
  have hW7s : W7.heap.size = w6.heap.size + 1 := by rw [hW7]; simp
  have bO7 : Blk W7 w6.heap.size 161 #[.slice (some ⟨tb, 0, none⟩) v v] := by rw [hW7]; exact Blk.new w6 _ _
  have bB7 := bB6.keep k7 (fun h => h)
  have b7 := b6.keep k7 (fun h => h)
  have h0 : W7.cell? ⟨w.heap.size, 0, none⟩ = some (.pointer (some ⟨pb, 0, none⟩)) := bB7.at_ 0
  have h5 : W7.cell? ⟨w6.heap.size, 0, none⟩ = some (.slice (some ⟨tb, 0, none⟩) v v) := bO7.at_ 0
  have h4 : W7.cell? ⟨pb, 4, none⟩ = some (.slice (some ⟨tb, 0, none⟩) v v) := by rw [HV.out]; exact b7.at_ 4
  have hf4 := b7.fr 4
  have HPN6 := Hid.intro_ pn6
  have HBL := Hid.intro_ (blank_new v hv16 W7.drew)
  have hfo := Hid.intro_ (pn6.fresh (Nat.le_refl _))
  have HTB6 := Hid.intro_ (And.intro q2 (And.intro q3 (And.intro q5 q6)))
  have HBB6 := Hid.intro_ bB6
  have HBT6 := Hid.intro_ bT6
  have HBB7 := Hid.intro_ bB7
  have HBO7 := Hid.intro_ bO7
  have HB7 := Hid.intro_ b7
  have K6 := Hid.intro_ k6
  have K7 := Hid.intro_ k7
  have npb : ¬ pb = w6.heap.size := by have := b6.lt; omega
  have npb2 : ¬ w6.heap.size = pb := by omega
  have nbx : ¬ pb = w.heap.size := by
    intro e
    have h1 := HBB6.out
    have h2 := b6
    rw [e] at h2
    unfold Blk at h1 h2
    rw [h1] at h2
    injection h2 with h2
    injection h2 with _ h2
    exact absurd h2 (by decide)
  have nbx2 : ¬ w.heap.size = pb := fun e => nbx e.symm
  clear HB2 pn6 bB6 bT6 b6 htx6 q2 q3 q4 q5 q6 q7 k7 bO7 bB7 b7 k6 d2 e2 f2
  go_upto_region 12 with (fail)
  rw [← hW7]
  clear hW7
  go_region_held3 (fun w' => w'.cell? ⟨w.heap.size, 0, none⟩ = some (.pointer (some ⟨pb, 0, none⟩)) ∧ w'.cell? ⟨w6.heap.size, 0, none⟩ = some (.slice (some ⟨tb, 0, none⟩) v v))
    (first | exact ⟨h0, h5⟩ | exact hS8.out | go_keep)
    (first
      | (go_at_call 219; refine HBL.out.mono ?_; rintro e w8 ⟨tn, rfl, htn, hrow, k8⟩
         have hS8 := Hid.intro_ (And.intro (cell_keep (w := W7.drew) h0 k8 (fun h => h)) (cell_keep (w := W7.drew) h5 k8 (fun h => h)))
         have b8 := (HB7.out.drew).keep k8 (fun h => h)
         have m4 : w8.cell? ⟨pb, 4, none⟩ = some (.slice (some ⟨tb, 0, none⟩) v v) := by rw [HV.out]; exact b8.at_ 4
         have mf4 := b8.fr 4
         have K8 := Hid.intro_ k8
         have HROW := Hid.intro_ hrow
         have HTN := Hid.intro_ htn
         have HB8 := Hid.intro_ b8
         clear k8 hrow htn b8))
  obtain ⟨W9, hW9⟩ : ∃ W9, W9 = w8.setCell ⟨pb, 4, none⟩ (.slice (some ⟨tn, 0, none⟩) v v) := ⟨_, rfl⟩
  have k9 : Keep (fun z => z = pb) w8 W9 := by rw [hW9]; exact (Keep.refl (fun z => z = pb) w8).setCell (p := ⟨pb, 4, none⟩) (fun _ => rfl) _
  have k68 : Keep Nil w6 w8 := (K7.out.then_ (Keep.refl Nil W7).drew).then_ K8.out
  have s1 : w.heap.size + 1 ≤ w2.heap.size := by have := K2.out.size; omega
  have s2 : w2.heap.size + 1 ≤ w6.heap.size := by have := K4.out.size; have := K5.out.size; have := K6.out.size; omega
  have s3 : w6.heap.size + 1 ≤ tn := by have := HTN.out; simp at this; omega
  have s4 : w6.heap.size + 1 ≤ w8.heap.size := by have := K8.out.size; simp at this; omega
  have s5 : tb < w6.heap.size := HTB6.out.1.lt
  have pn9 : PsNew X (fun z => ((Z z ∨ z = w.heap.size) ∨ z = w2.heap.size) ∨ z = w6.heap.size ∨ z = tb) pb (some (tn, blankL X.d.v)) W9 := by
    have := HPN6.out.retext (Z' := fun z => ((Z z ∨ z = w.heap.size) ∨ z = w2.heap.size) ∨ z = w6.heap.size ∨ z = tb) k68 (by rw [← HV.out]; exact HROW.out) (by omega) (fun x hx => by
      refine ⟨?_, fun e => ?_⟩
      · rcases hx with h | h | h
        · exact .inl h
        · exact .inr (.inr (by omega))
        · exact .inr (.inl h)
      · rcases hx with ((h | h) | h) | h | h
        · have := HTBP.out x h; omega
        · omega
        · omega
        · omega
        · omega)
    rw [hW9, HV.out]
    exact this
  have hz9 : ∀ z, (z = w2.heap.size ∨ z = w6.heap.size ∨ z = w.heap.size ∨ z = tb) → (((Z z ∨ z = w.heap.size) ∨ z = w2.heap.size) ∨ z = w6.heap.size ∨ z = tb) ∧ Off X.c.E (fun _ => False) z ∧ X.Y.heap.size ≤ z := fun z hz => by
    rcases hz with h | h | h | h
    · exact ⟨.inl (.inr h), by rw [h]; exact hft.out⟩
    · exact ⟨.inr (.inl h), by rw [h]; exact hfo.out⟩
    · exact ⟨.inl (.inl (.inr h)), by rw [h]; exact hfx.out⟩
    · exact ⟨.inr (.inr h), by rw [h]; exact HTB.out.2.2⟩
  have hpb9 : ∀ z, z = pb → ¬ z = w2.heap.size ∧ ¬ z = w6.heap.size ∧ ¬ z = w.heap.size := fun z e => by
    refine ⟨fun e2 => ?_, fun e2 => npb (e.symm.trans e2), fun e2 => nbx (e.symm.trans e2)⟩
    have h1 := HBT6.out
    have h2 := (HB7.out)
    have h3 : Blk W7 w2.heap.size 3 #[.int .i64 τ] := h1.keep K7.out (fun h => h)
    rw [← e, e2] at h2
    unfold Blk at h2 h3
    rw [h3] at h2
    injection h2 with h2
    injection h2 with _ h2
    exact absurd h2 (by decide)
  have htb9 : ¬ tb = pb := by
    obtain ⟨cb', tv', _, ht'⟩ := HPN6.out.open_.cells
    exact (ht' tb old rfl).2.2.2.2.2.2
  have bT9 : Blk W9 w2.heap.size 3 #[.int .i64 τ] := (HBT6.out.keep k68 (fun h => h)).keep k9 (fun e => (hpb9 _ e).1 rfl)
  have bO9 : Blk W9 w6.heap.size 161 #[.slice (some ⟨tb, 0, none⟩) X.d.v X.d.v] := by
    rw [← HV.out]
    exact ((HBO7.out.drew).keep K8.out (fun h => h)).keep k9 (fun e => npb2 e)
  have bB9 : Blk W9 w.heap.size 284 #[.pointer (some ⟨pb, 0, none⟩)] := (HBB6.out.keep k68 (fun h => h)).keep k9 (fun e => nbx2 e)
  have rT9 : RowV W9 tb 5 (by8 old) := (HTB6.out.1.keep k68 (fun h => h)).keep k9 (fun e => htb9 e)
  obtain ⟨cb9, tv9, b9, hwk⟩ := pwalk_next (Z' := Z) HP.out pn9 hz9 bT9 bO9 bB9 rT9 HTB.out.2.1 HRUN.out HOK.out H3N.out (fun z hz => ⟨.inl (.inl (.inl hz)), fun h => by
    have h1 := HTBP.out z hz
    rcases h with h | h | h | h
    · omega
    · omega
    · omega
    · exact (HZNE.out z hz).2 h⟩)
  have HWK := Hid.intro_ (hwk W9.drew (Keep.refl Nil W9).drew)
  have l0 : W9.cell? ⟨w.heap.size, 0, none⟩ = some (.pointer (some ⟨pb, 0, none⟩)) := bB9.at_ 0
  have l2 : W9.cell? ⟨pb, 2, none⟩ = some (.pointer (some ⟨cb9, 0, none⟩)) := b9.at_ 2
  have l3 : W9.cell? ⟨pb, 3, none⟩ = some (.int .u64 r) := by rw [HR.out]; exact b9.at_ 3
  rw [← HR.out] at HWK
  have hk9 : Hid (Keep (fun z => ¬ Z z) w W9) := Hid.intro_ (by
    have a1 : Keep (fun z => ¬ Z z) w W1 := K1.out.mono (fun _ _ h => h.elim)
    have a2 := a1.trans K2.out (fun z _ h hz => h (.inl hz))
    have a3 := a2.trans K3.out (fun _ _ h => h.elim)
    have a4 := a3.trans K4.out (fun z _ h hz => h (.inl (.inl hz)))
    have a5 := a4.trans K5.out (fun z hb e => by have e : z = w2.heap.size := e; omega)
    have a6 := a5.trans K6.out (fun z _ h hz => h (.inl (.inl hz)))
    have a7 := a6.trans k68 (fun _ _ h => h.elim)
    exact a7.trans k9 (fun z _ e hz => (HZNE.out z hz).1 e))
  clear k9 k68 pn9 hz9 hpb9 bT9 bO9 bB9 rT9 b9 hwk m4 mf4 h0 h5 h4 hf4 g0 g3 g4
  go_upto_region 13 with (fail)
  rw [← hW9]
  clear hW9
  go_region_held3 (fun w' => w'.cell? ⟨w.heap.size, 0, none⟩ = some (.pointer (some ⟨pb, 0, none⟩)) ∧ w'.cell? ⟨pb, 2, none⟩ = some (.pointer (some ⟨cb9, 0, none⟩)) ∧ w'.cell? ⟨pb, 3, none⟩ = some (.int .u64 r))
    (first | exact ⟨l0, l2, l3⟩ | exact hS10.out | go_keep)
    (first
      | (go_at_call 220; refine HWK.out.mono ?_; rintro e w10 ⟨p10, rfl, hbx, hpo, hkz, hc2, hc3⟩
         have hS10 := Hid.intro_ (And.intro (show w10.cell? ⟨w.heap.size, 0, none⟩ = some (.pointer (some ⟨pb, 0, none⟩)) from hbx.at_ 0) (And.intro hc2 hc3))
         have HPO := Hid.intro_ hpo
         have HKZ := Hid.intro_ hkz
         clear hbx hpo hkz hc2 hc3))
  obtain ⟨cbx, tvx, bx10, _⟩ := HPO.out.cells
  have v5 : w10.cell? ⟨pb, 5, none⟩ = some (.int .i64 0) := bx10.at_ 5
  have vf5 := bx10.fr 5
  have v0 : w10.cell? ⟨w.heap.size, 0, none⟩ = some (.pointer (some ⟨pb, 0, none⟩)) := hS10.out.1
  clear bx10
  go_wp2_with fail
  go_ret
  obtain ⟨hfo1, hfo2⟩ := HPO.out.calm
  exact ⟨rfl, ⟨tn, hfo1⟩, (hk9.out.then_ HKZ.out).then_ hfo2⟩
end
end Go.Proofs.YtadipinnbehhhaaGreatDoor
namespace Go.Proofs.YtadipinnbehhhaaGreatDoor
open Go.RowKit

section
variable {X : KX} {Z Z' : Nat → Prop} {pb tb : Nat} {old new : List Int} {o : Option (Nat × List Int)} {w w1 w' : World} {fs : List (ByteArray × AFile)} {i : Nat}
theorem PsShut.zne (p : PsShut X Z pb o w) : ∀ z, Z z → ¬ z = pb := by
  obtain ⟨G, s, j, root, h1, h2, h3⟩ := p.out
  exact fun z hz => (h3.za.off z hz).2.2
set_option maxRecDepth 100000 in
set_option maxHeartbeats 16000000 in
theorem pnext_over (P : PxOk X fs) (p : PsOpen X Z pb (some (tb, old)) w) (hi : X.d.cubes[i]? = some old) (hn : X.d.cubes[i + 1]? = none) :
    Calls Tryz.prog 179 #[.pointer (some ⟨pb, 0, none⟩)] w fun e w' => e = .returned (.bool false) ∧ PsOpen X Z pb (some (tb, old)) w' ∧ Keep (fun z => ¬ Z z) w w' := by
  have hτ0 := (P.P.ok.next_c hi).2 hn
  obtain ⟨τ, hτ⟩ : ∃ τ, τ = X.d.turnC old := ⟨_, rfl⟩
  rw [← hτ] at hτ0
  obtain ⟨v, hv⟩ : ∃ v, v = X.d.v := ⟨_, rfl⟩
  obtain ⟨r, hr⟩ : ∃ r, r = X.d.r := ⟨_, rfl⟩
  obtain ⟨W1, hW1⟩ : ∃ W1, W1 = w.alloc (.cells #[.pointer (some ⟨pb, 0, none⟩)] 284) := ⟨_, rfl⟩
  have k1 : Keep Nil w W1 := by rw [hW1]; exact (Keep.refl Nil w).alloc _
  have hW1s : W1.heap.size = w.heap.size + 1 := by rw [hW1]; simp
  have bB : Blk W1 w.heap.size 284 #[.pointer (some ⟨pb, 0, none⟩)] := by rw [hW1]; exact Blk.new w _ _
  have p1 : PsOpen X (fun z => Z z ∨ z = w.heap.size) pb (some (tb, old)) W1 := p.more k1 (fun x hx => hx.elim .inl (fun e => .inr ⟨by omega, by omega⟩))
  obtain ⟨cb0, tv0, b0, htx⟩ := p1.cells
  obtain ⟨q1, q2, q3, q4, q5, q6, q7⟩ := htx tb old rfl
  subst q1
  have HB1 := Hid.intro_ (p1.begins P)
  have hfx := Hid.intro_ (p.fresh (Nat.le_refl _))
  have c0 : W1.cell? ⟨w.heap.size, 0, none⟩ = some (.pointer (some ⟨pb, 0, none⟩)) := bB.at_ 0
  have c4 : W1.cell? ⟨pb, 4, none⟩ = some (.slice (some ⟨tb, 0, none⟩) v v) := by rw [hv]; exact b0.at_ 4
  have hse := some_eq tb v W1
  have HBB := Hid.intro_ bB
  have K1 := Hid.intro_ k1
  have HTB := Hid.intro_ (And.intro q2 (And.intro q3 (And.intro q5 q6)))
  have HP := Hid.intro_ P
  have HV := Hid.intro_ hv
  have HR := Hid.intro_ hr
  have HTAU := Hid.intro_ hτ
  have HTBP := Hid.intro_ (show ∀ z, Z z → z < w.heap.size from p.zlt)
  have HZNE := Hid.intro_ (show ∀ z, Z z → ¬ z = pb ∧ ¬ z = tb from fun z hz => ⟨(p.zne z hz).1, (p.zne z hz).2 tb old rfl⟩)
  have hv16 : v ≤ 65536 := by rw [hv]; exact P.P.ok.rows.vars
  subst hτ0
  clear P p hi hn hv hr k1 bB p1 b0 htx q2 q3 q4 q5 q6 q7 hτ
  go_enter Tryz.func179, Tryz.ntmps179
  go_upto_region 1 with (fail)
  rw [← hW1]
  clear hW1
  go_wp2_with fail
  refine HB1.out.mono ?_
  rintro e w2 ⟨rfl, k2, pn2⟩
  have bB2 := HBB.out.keep k2 (fun h => h (.inr rfl))
  have d0 : w2.cell? ⟨w.heap.size, 0, none⟩ = some (.pointer (some ⟨pb, 0, none⟩)) := bB2.at_ 0
  obtain ⟨W3, hW3⟩ : ∃ W3, W3 = w2.alloc (.cells #[.int .i64 (-1)] 3) := ⟨_, rfl⟩
  have k3 : Keep Nil w2 W3 := by rw [hW3]; exact (Keep.refl Nil w2).alloc _
  have hW3s : W3.heap.size = w2.heap.size + 1 := by rw [hW3]; simp
  have bT : Blk W3 w2.heap.size 3 #[.int .i64 (-1)] := by rw [hW3]; exact Blk.new w2 _ _
  have pn3 : PsNew X (fun z => (Z z ∨ z = w.heap.size) ∨ z = w2.heap.size) pb (some (tb, old)) W3 := pn2.more k3 (fun x hx => hx.elim .inl (fun e => .inr ⟨by omega, by omega⟩))
  have hls := plast HP.out pn3
  rw [← HTAU.out] at hls
  have HLS := Hid.intro_ hls
  have hft := Hid.intro_ (pn2.fresh (Nat.le_refl _))
  have d1 : W3.cell? ⟨w.heap.size, 0, none⟩ = some (.pointer (some ⟨pb, 0, none⟩)) := (bB2.keep k3 (fun h => h)).at_ 0
  have HBB3 := Hid.intro_ (bB2.keep k3 (fun h => h))
  have HBT3 := Hid.intro_ bT
  have K2 := Hid.intro_ k2
  have K3 := Hid.intro_ k3
  clear HB1 k2 pn2 bB2 k3 bT pn3 c0 c4 hse hls
  go_upto_region 6 with (fail)
  rw [← hW3]
  clear hW3
  go_wp2_with fail
  refine HLS.out.mono ?_
  rintro e w4 ⟨rfl, po4, k4⟩
  have bB4 := HBB3.out.keep k4 (fun h => h (.inl (.inr rfl)))
  have bT4 := HBT3.out.keep k4 (fun h => h (.inr rfl))
  have d2 : w4.cell? ⟨w.heap.size, 0, none⟩ = some (.pointer (some ⟨pb, 0, none⟩)) := bB4.at_ 0
  have e2 : w4.cell? ⟨w2.heap.size, 0, none⟩ = some (.int .i64 (-1)) := bT4.at_ 0
  have f2 := bT4.fr 0
  have nbt : ¬ w.heap.size = w2.heap.size := by
    have := HBB3.out.lt
    have := K2.out.size
    omega
  have nbt2 : ¬ w2.heap.size = w.heap.size := fun e => nbt e.symm
  obtain ⟨W5, hW5⟩ : ∃ W5, W5 = w4.setCell ⟨w2.heap.size, 0, none⟩ (.int .i64 (-1)) := ⟨_, rfl⟩
  have k5 : Keep (fun z => z = w2.heap.size) w4 W5 := by rw [hW5]; exact (Keep.refl (fun z => z = w2.heap.size) w4).setCell (p := ⟨w2.heap.size, 0, none⟩) (fun _ => rfl) _
  have bT5 : Blk W5 w2.heap.size 3 #[.int .i64 (-1)] := by rw [hW5]; exact bT4.set_ 0 _
  have bB5 := bB4.keep k5 (fun e => nbt e)
  have po5 := po4.turn k5 (.inr rfl) hft.out.1 hft.out.2
  have HPO5 := Hid.intro_ (po5.more (Z' := Z) (Keep.refl Nil W5) (fun x hx => .inl (.inl (.inl hx))))
  have hk5 : Hid (Keep (fun z => ¬ Z z) w W5) := Hid.intro_ (by
    have s1 : w.heap.size + 1 ≤ w2.heap.size := by have := K2.out.size; omega
    have a1 : Keep (fun z => ¬ Z z) w W1 := K1.out.mono (fun _ _ h => h.elim)
    have a2 := a1.trans K2.out (fun z _ h hz => h (.inl hz))
    have a3 := a2.trans K3.out (fun _ _ h => h.elim)
    have a4 := a3.trans k4 (fun z _ h hz => h (.inl (.inl hz)))
    exact a4.trans k5 (fun z hb e => by have e : z = w2.heap.size := e; omega))
  clear HLS po4 k4 bB4 bT4 k5 bT5 bB5 po5 d0 d1
  go_wp2_with fail
  rw [← hW5]
  clear hW5
  go_ret
  exact ⟨rfl, HPO5.out, hk5.out⟩
set_option maxRecDepth 100000 in
set_option maxHeartbeats 16000000 in
theorem pnext_first (P : PxOk X fs) (p : PsShut X Z pb none w) (hroot : ¬ X.d.r = 9223372036854775808) :
    Calls Tryz.prog 179 #[.pointer (some ⟨pb, 0, none⟩)] w fun e w' => e = .returned (.bool true) ∧ (∃ tn, PsOpen X Z pb (some (tn, X.d.firstC)) w') ∧ Keep (fun z => ¬ Z z) w w' := by
  obtain ⟨new, hnew⟩ : ∃ new, new = X.d.firstC := ⟨_, rfl⟩
  have h3n : Txt3 new := by rw [hnew]; exact Txt3.run _ _ (Txt3.blank _)
  rw [← hnew]
  have hrun2 : runN3 X.d.P (turnG (blankL X.d.v) (-1)) 65537 X.d.r (blankL X.d.v) = new := by
    rw [show turnG (blankL X.d.v) (-1) = lowG from funext (turnG_less _)]
    exact hnew.symm
  have hok : okN X.d.P (blankL X.d.v) (-1) 65537 X.d.r := ok_far P.P.ok _ _ P.P.ok.root (fun _ => by omega)
  obtain ⟨v, hv⟩ : ∃ v, v = X.d.v := ⟨_, rfl⟩
  obtain ⟨r, hr⟩ : ∃ r, r = X.d.r := ⟨_, rfl⟩
  obtain ⟨W1, hW1⟩ : ∃ W1, W1 = w.alloc (.cells #[.pointer (some ⟨pb, 0, none⟩)] 284) := ⟨_, rfl⟩
  have k1 : Keep Nil w W1 := by rw [hW1]; exact (Keep.refl Nil w).alloc _
  have hW1s : W1.heap.size = w.heap.size + 1 := by rw [hW1]; simp
  have bB : Blk W1 w.heap.size 284 #[.pointer (some ⟨pb, 0, none⟩)] := by rw [hW1]; exact Blk.new w _ _
  have p1 : PsShut X (fun z => Z z ∨ z = w.heap.size) pb none W1 := p.more k1 (fun x hx => hx.elim .inl (fun e => .inr ⟨by omega, by omega⟩))
  obtain ⟨rt0, tv0, b0, htx⟩ := p1.cells
  have q1 := htx rfl
  subst q1
  have HB1 := Hid.intro_ (p1.begins P)
  have hfx := Hid.intro_ (p.fresh (Nat.le_refl _))
  have c0 : W1.cell? ⟨w.heap.size, 0, none⟩ = some (.pointer (some ⟨pb, 0, none⟩)) := bB.at_ 0
  have c4 : W1.cell? ⟨pb, 4, none⟩ = some (.slice none 0 0) := b0.at_ 4
  have hse := nil_eq W1
  have HBB := Hid.intro_ bB
  have K1 := Hid.intro_ k1
  have HP := Hid.intro_ P
  have HV := Hid.intro_ hv
  have HR := Hid.intro_ hr
  have HRUN := Hid.intro_ hrun2
  have HOK := Hid.intro_ hok
  have H3N := Hid.intro_ h3n
  have HTBP := Hid.intro_ (show ∀ z, Z z → z < w.heap.size from p.zlt)
  have HZNE := Hid.intro_ (show ∀ z, Z z → ¬ z = pb from p.zne)
  have hv16 : v ≤ 65536 := by rw [hv]; exact P.P.ok.rows.vars
  have hrq : ((r : Int) == 9223372036854775808) = false := by
    have : ¬ (r : Int) = 9223372036854775808 := by rw [hr]; omega
    simpa using this
  clear P p hrun2 hok hroot h3n hnew hv hr k1 bB p1 b0 htx
  go_enter Tryz.func179, Tryz.ntmps179
  go_upto_region 1 with (fail)
  rw [← hW1]
  clear hW1
  go_wp2_with fail
  refine HB1.out.mono ?_
  rintro e w2 ⟨rfl, k2, tb, pn2⟩
  have bB2 := HBB.out.keep k2 (fun h => h (.inr rfl))
  have d0 : w2.cell? ⟨w.heap.size, 0, none⟩ = some (.pointer (some ⟨pb, 0, none⟩)) := bB2.at_ 0
  obtain ⟨W3, hW3⟩ : ∃ W3, W3 = w2.alloc (.cells #[.int .i64 (-1)] 3) := ⟨_, rfl⟩
  have k3 : Keep Nil w2 W3 := by rw [hW3]; exact (Keep.refl Nil w2).alloc _
  have hW3s : W3.heap.size = w2.heap.size + 1 := by rw [hW3]; simp
  have bT : Blk W3 w2.heap.size 3 #[.int .i64 (-1)] := by rw [hW3]; exact Blk.new w2 _ _
  have pn3 : PsNew X (fun z => (Z z ∨ z = w.heap.size) ∨ z = w2.heap.size) pb (some (tb, blankL X.d.v)) W3 := pn2.more k3 (fun x hx => hx.elim .inl (fun e => .inr ⟨by omega, by omega⟩))
  have HZNT := Hid.intro_ (show ∀ z, Z z → ¬ z = tb from fun z hz => (pn2.open_.zne z (.inl hz)).2 tb _ rfl)
  have hft := Hid.intro_ (pn2.fresh (Nat.le_refl _))
  have bB6 := bB2.keep k3 (fun h => h)
  have bT6 := bT
  obtain ⟨cb6, tv6, b6, htx6⟩ := pn3.open_.cells
  obtain ⟨q1, q2, q3, q4, q5, q6, q7⟩ := htx6 tb _ rfl
  subst q1
  have g0 : W3.cell? ⟨w.heap.size, 0, none⟩ = some (.pointer (some ⟨pb, 0, none⟩)) := bB6.at_ 0
  have g3 : W3.cell? ⟨pb, 3, none⟩ = some (.int .u64 r) := by rw [HR.out]; exact b6.at_ 3
  have g4 : W3.cell? ⟨pb, 4, none⟩ = some (.slice (some ⟨tb, 0, none⟩) v v) := by rw [HV.out]; exact b6.at_ 4
  have K2 := Hid.intro_ k2
  have K3 := Hid.intro_ k3
  have HW3S := Hid.intro_ hW3s
  clear HB1 k2 pn2 bB2 k3 bT c0 c4 hse d0 hW3s
  go_upto_region 5 with (fail)
  rw [← hW3]
  clear hW3
  obtain ⟨W7, hW7⟩ : ∃ W7, W7 = W3.alloc (.cells #[.slice (some ⟨tb, 0, none⟩) v v] 161) := ⟨_, rfl⟩
  have k7 : Keep Nil W3 W7 := by rw [hW7]; exact (Keep.refl Nil W3).alloc _
  have hW7s : W7.heap.size = W3.heap.size + 1 := by rw [hW7]; simp
  have bO7 : Blk W7 W3.heap.size 161 #[.slice (some ⟨tb, 0, none⟩) v v] := by rw [hW7]; exact Blk.new W3 _ _
  have bB7 := bB6.keep k7 (fun h => h)
  have b7 := b6.keep k7 (fun h => h)
  have h0 : W7.cell? ⟨w.heap.size, 0, none⟩ = some (.pointer (some ⟨pb, 0, none⟩)) := bB7.at_ 0
  have h5 : W7.cell? ⟨W3.heap.size, 0, none⟩ = some (.slice (some ⟨tb, 0, none⟩) v v) := bO7.at_ 0
  have h4 : W7.cell? ⟨pb, 4, none⟩ = some (.slice (some ⟨tb, 0, none⟩) v v) := by rw [HV.out]; exact b7.at_ 4
  have hf4 := b7.fr 4
  have HPN6 := Hid.intro_ pn3
  have HBL := Hid.intro_ (blank_new v hv16 W7.drew)
  have hfo := Hid.intro_ (pn3.fresh (Nat.le_refl _))
  have HTB6 := Hid.intro_ (And.intro q2 (And.intro q3 (And.intro q5 q6)))
  have HTB := HTB6
  have HBB6 := Hid.intro_ bB6
  have HBT6 := Hid.intro_ bT6
  have HBB7 := Hid.intro_ bB7
  have HBO7 := Hid.intro_ bO7
  have HB7 := Hid.intro_ b7
  have K7 := Hid.intro_ k7
  have npb : ¬ pb = W3.heap.size := by have := b6.lt; omega
  have npb2 : ¬ W3.heap.size = pb := by omega
  have nbx : ¬ pb = w.heap.size := by
    intro e
    have h1 := HBB6.out
    have h2 := b6
    rw [e] at h2
    unfold Blk at h1 h2
    rw [h1] at h2
    injection h2 with h2
    injection h2 with _ h2
    exact absurd h2 (by decide)
  have nbx2 : ¬ w.heap.size = pb := fun e => nbx e.symm
  clear pn3 bB6 bT6 b6 htx6 q2 q3 q4 q5 q6 q7 k7 bO7 bB7 b7
  go_upto_region 12 with (fail)
  rw [← hW7]
  clear hW7
  go_region_held3 (fun w' => w'.cell? ⟨w.heap.size, 0, none⟩ = some (.pointer (some ⟨pb, 0, none⟩)) ∧ w'.cell? ⟨W3.heap.size, 0, none⟩ = some (.slice (some ⟨tb, 0, none⟩) v v))
    (first | exact ⟨h0, h5⟩ | exact hS8.out | go_keep)
    (first
      | (go_at_call 219; refine HBL.out.mono ?_; rintro e w8 ⟨tn, rfl, htn, hrow, k8⟩
         have hS8 := Hid.intro_ (And.intro (cell_keep (w := W7.drew) h0 k8 (fun h => h)) (cell_keep (w := W7.drew) h5 k8 (fun h => h)))
         have b8 := (HB7.out.drew).keep k8 (fun h => h)
         have m4 : w8.cell? ⟨pb, 4, none⟩ = some (.slice (some ⟨tb, 0, none⟩) v v) := by rw [HV.out]; exact b8.at_ 4
         have mf4 := b8.fr 4
         have K8 := Hid.intro_ k8
         have HROW := Hid.intro_ hrow
         have HTN := Hid.intro_ htn
         have HB8 := Hid.intro_ b8
         clear k8 hrow htn b8))
  obtain ⟨W9, hW9⟩ : ∃ W9, W9 = w8.setCell ⟨pb, 4, none⟩ (.slice (some ⟨tn, 0, none⟩) v v) := ⟨_, rfl⟩
  have k9 : Keep (fun z => z = pb) w8 W9 := by rw [hW9]; exact (Keep.refl (fun z => z = pb) w8).setCell (p := ⟨pb, 4, none⟩) (fun _ => rfl) _
  have k68 : Keep Nil W3 w8 := (K7.out.then_ (Keep.refl Nil W7).drew).then_ K8.out
  have s1 : w.heap.size + 1 ≤ w2.heap.size := by have := K2.out.size; omega
  have s2 : w2.heap.size + 1 ≤ W3.heap.size := by have := HW3S.out; omega
  have s3 : W3.heap.size + 1 ≤ tn := by have := HTN.out; simp at this; omega
  have s4 : W3.heap.size + 1 ≤ w8.heap.size := by have := K8.out.size; simp at this; omega
  have s5 : tb < W3.heap.size := HTB6.out.1.lt
  have pn9 : PsNew X (fun z => ((Z z ∨ z = w.heap.size) ∨ z = w2.heap.size) ∨ z = W3.heap.size ∨ z = tb) pb (some (tn, blankL X.d.v)) W9 := by
    have := HPN6.out.retext (Z' := fun z => ((Z z ∨ z = w.heap.size) ∨ z = w2.heap.size) ∨ z = W3.heap.size ∨ z = tb) k68 (by rw [← HV.out]; exact HROW.out) (by omega) (fun x hx => by
      refine ⟨?_, fun e => ?_⟩
      · rcases hx with h | h | h
        · exact .inl h
        · exact .inr (.inr (by omega))
        · exact .inr (.inl h)
      · rcases hx with ((h | h) | h) | h | h
        · have := HTBP.out x h; omega
        · omega
        · omega
        · omega
        · omega)
    rw [hW9, HV.out]
    exact this
  have hz9 : ∀ z, (z = w2.heap.size ∨ z = W3.heap.size ∨ z = w.heap.size ∨ z = tb) → (((Z z ∨ z = w.heap.size) ∨ z = w2.heap.size) ∨ z = W3.heap.size ∨ z = tb) ∧ Off X.c.E (fun _ => False) z ∧ X.Y.heap.size ≤ z := fun z hz => by
    rcases hz with h | h | h | h
    · exact ⟨.inl (.inr h), by rw [h]; exact hft.out⟩
    · exact ⟨.inr (.inl h), by rw [h]; exact hfo.out⟩
    · exact ⟨.inl (.inl (.inr h)), by rw [h]; exact hfx.out⟩
    · exact ⟨.inr (.inr h), by rw [h]; exact HTB.out.2.2⟩
  have hpb9 : ∀ z, z = pb → ¬ z = w2.heap.size ∧ ¬ z = W3.heap.size ∧ ¬ z = w.heap.size := fun z e => by
    refine ⟨fun e2 => ?_, fun e2 => npb (e.symm.trans e2), fun e2 => nbx (e.symm.trans e2)⟩
    have h1 := HBT6.out
    have h2 := (HB7.out)
    have h3 : Blk W7 w2.heap.size 3 #[.int .i64 (-1)] := h1.keep K7.out (fun h => h)
    rw [← e, e2] at h2
    unfold Blk at h2 h3
    rw [h3] at h2
    injection h2 with h2
    injection h2 with _ h2
    exact absurd h2 (by decide)
  have htb9 : ¬ tb = pb := by
    obtain ⟨cb', tv', _, ht'⟩ := HPN6.out.open_.cells
    exact (ht' tb _ rfl).2.2.2.2.2.2
  have bT9 : Blk W9 w2.heap.size 3 #[.int .i64 (-1)] := (HBT6.out.keep k68 (fun h => h)).keep k9 (fun e => (hpb9 _ e).1 rfl)
  have bO9 : Blk W9 W3.heap.size 161 #[.slice (some ⟨tb, 0, none⟩) X.d.v X.d.v] := by
    rw [← HV.out]
    exact ((HBO7.out.drew).keep K8.out (fun h => h)).keep k9 (fun e => npb2 e)
  have bB9 : Blk W9 w.heap.size 284 #[.pointer (some ⟨pb, 0, none⟩)] := (HBB6.out.keep k68 (fun h => h)).keep k9 (fun e => nbx2 e)
  have rT9 : RowV W9 tb 5 (by8 (blankL X.d.v)) := (HTB6.out.1.keep k68 (fun h => h)).keep k9 (fun e => htb9 e)
  obtain ⟨cb9, tv9, b9, hwk⟩ := pwalk_next (Z' := Z) HP.out pn9 hz9 bT9 bO9 bB9 rT9 HTB.out.2.1 HRUN.out HOK.out H3N.out (fun z hz => ⟨.inl (.inl (.inl hz)), fun h => by
    have h1 := HTBP.out z hz
    rcases h with h | h | h | h
    · omega
    · omega
    · omega
    · exact HZNT.out z hz h⟩)
  have HWK := Hid.intro_ (hwk W9.drew (Keep.refl Nil W9).drew)
  have l0 : W9.cell? ⟨w.heap.size, 0, none⟩ = some (.pointer (some ⟨pb, 0, none⟩)) := bB9.at_ 0
  have l2 : W9.cell? ⟨pb, 2, none⟩ = some (.pointer (some ⟨cb9, 0, none⟩)) := b9.at_ 2
  have l3 : W9.cell? ⟨pb, 3, none⟩ = some (.int .u64 r) := by rw [HR.out]; exact b9.at_ 3
  rw [← HR.out] at HWK
  have hk9 : Hid (Keep (fun z => ¬ Z z) w W9) := Hid.intro_ (by
    have a1 : Keep (fun z => ¬ Z z) w W1 := K1.out.mono (fun _ _ h => h.elim)
    have a2 := a1.trans K2.out (fun z _ h hz => h (.inl hz))
    have a3 := a2.trans K3.out (fun _ _ h => h.elim)
    have a7 := a3.trans k68 (fun _ _ h => h.elim)
    exact a7.trans k9 (fun z _ e hz => HZNE.out z hz e))
  clear k9 k68 pn9 hz9 hpb9 bT9 bO9 bB9 rT9 b9 hwk m4 mf4 h0 h5 h4 hf4 g0 g3 g4
  go_upto_region 13 with (fail)
  rw [← hW9]
  clear hW9
  go_region_held3 (fun w' => w'.cell? ⟨w.heap.size, 0, none⟩ = some (.pointer (some ⟨pb, 0, none⟩)) ∧ w'.cell? ⟨pb, 2, none⟩ = some (.pointer (some ⟨cb9, 0, none⟩)) ∧ w'.cell? ⟨pb, 3, none⟩ = some (.int .u64 r))
    (first | exact ⟨l0, l2, l3⟩ | exact hS10.out | go_keep)
    (first
      | (go_at_call 220; refine HWK.out.mono ?_; rintro e w10 ⟨p10, rfl, hbx, hpo, hkz, hc2, hc3⟩
         have hS10 := Hid.intro_ (And.intro (show w10.cell? ⟨w.heap.size, 0, none⟩ = some (.pointer (some ⟨pb, 0, none⟩)) from hbx.at_ 0) (And.intro hc2 hc3))
         have HPO := Hid.intro_ hpo
         have HKZ := Hid.intro_ hkz
         clear hbx hpo hkz hc2 hc3))
  obtain ⟨cbx, tvx, bx10, _⟩ := HPO.out.cells
  have v5 : w10.cell? ⟨pb, 5, none⟩ = some (.int .i64 0) := bx10.at_ 5
  have vf5 := bx10.fr 5
  have v0 : w10.cell? ⟨w.heap.size, 0, none⟩ = some (.pointer (some ⟨pb, 0, none⟩)) := hS10.out.1
  clear bx10
  go_wp2_with fail
  go_ret
  obtain ⟨hfo1, hfo2⟩ := HPO.out.calm
  exact ⟨rfl, ⟨tn, hfo1⟩, (hk9.out.then_ HKZ.out).then_ hfo2⟩
set_option maxRecDepth 100000 in
set_option maxHeartbeats 16000000 in
theorem pnext_none (P : PxOk X fs) (p : PsShut X Z pb none w) (hroot : X.d.r = 9223372036854775808) :
    Calls Tryz.prog 179 #[.pointer (some ⟨pb, 0, none⟩)] w fun e w' => e = .returned (.bool false) ∧ (∃ tn t, PsOpen X Z pb (some (tn, t)) w') ∧ Keep (fun z => ¬ Z z) w w' := by
  obtain ⟨v, hv⟩ : ∃ v, v = X.d.v := ⟨_, rfl⟩
  obtain ⟨r, hr⟩ : ∃ r, r = X.d.r := ⟨_, rfl⟩
  obtain ⟨W1, hW1⟩ : ∃ W1, W1 = w.alloc (.cells #[.pointer (some ⟨pb, 0, none⟩)] 284) := ⟨_, rfl⟩
  have k1 : Keep Nil w W1 := by rw [hW1]; exact (Keep.refl Nil w).alloc _
  have hW1s : W1.heap.size = w.heap.size + 1 := by rw [hW1]; simp
  have bB : Blk W1 w.heap.size 284 #[.pointer (some ⟨pb, 0, none⟩)] := by rw [hW1]; exact Blk.new w _ _
  have p1 : PsShut X (fun z => Z z ∨ z = w.heap.size) pb none W1 := p.more k1 (fun x hx => hx.elim .inl (fun e => .inr ⟨by omega, by omega⟩))
  obtain ⟨rt0, tv0, b0, htx⟩ := p1.cells
  have q1 := htx rfl
  subst q1
  have HB1 := Hid.intro_ (p1.begins P)
  have hfx := Hid.intro_ (p.fresh (Nat.le_refl _))
  have c0 : W1.cell? ⟨w.heap.size, 0, none⟩ = some (.pointer (some ⟨pb, 0, none⟩)) := bB.at_ 0
  have c4 : W1.cell? ⟨pb, 4, none⟩ = some (.slice none 0 0) := b0.at_ 4
  have hse := nil_eq W1
  have HBB := Hid.intro_ bB
  have K1 := Hid.intro_ k1
  have HP := Hid.intro_ P
  have HV := Hid.intro_ hv
  have HR := Hid.intro_ hr
  have HTBP := Hid.intro_ (show ∀ z, Z z → z < w.heap.size from p.zlt)
  have HZNE := Hid.intro_ (show ∀ z, Z z → ¬ z = pb from p.zne)
  have hv16 : v ≤ 65536 := by rw [hv]; exact P.P.ok.rows.vars
  have hrq : ((r : Int) == 9223372036854775808) = true := by rw [hr, hroot]; rfl
  clear P p hroot hv hr k1 bB p1 b0 htx
  go_enter Tryz.func179, Tryz.ntmps179
  go_upto_region 1 with (fail)
  rw [← hW1]
  clear hW1
  go_wp2_with fail
  refine HB1.out.mono ?_
  rintro e w2 ⟨rfl, k2, tb, pn2⟩
  have bB2 := HBB.out.keep k2 (fun h => h (.inr rfl))
  have d0 : w2.cell? ⟨w.heap.size, 0, none⟩ = some (.pointer (some ⟨pb, 0, none⟩)) := bB2.at_ 0
  obtain ⟨W3, hW3⟩ : ∃ W3, W3 = w2.alloc (.cells #[.int .i64 (-1)] 3) := ⟨_, rfl⟩
  have k3 : Keep Nil w2 W3 := by rw [hW3]; exact (Keep.refl Nil w2).alloc _
  have hW3s : W3.heap.size = w2.heap.size + 1 := by rw [hW3]; simp
  have bT : Blk W3 w2.heap.size 3 #[.int .i64 (-1)] := by rw [hW3]; exact Blk.new w2 _ _
  have pn3 : PsNew X (fun z => (Z z ∨ z = w.heap.size) ∨ z = w2.heap.size) pb (some (tb, blankL X.d.v)) W3 := pn2.more k3 (fun x hx => hx.elim .inl (fun e => .inr ⟨by omega, by omega⟩))
  have HZNT := Hid.intro_ (show ∀ z, Z z → ¬ z = tb from fun z hz => (pn2.open_.zne z (.inl hz)).2 tb _ rfl)
  have hft := Hid.intro_ (pn2.fresh (Nat.le_refl _))
  have bB6 := bB2.keep k3 (fun h => h)
  have bT6 := bT
  obtain ⟨cb6, tv6, b6, htx6⟩ := pn3.open_.cells
  obtain ⟨q1, q2, q3, q4, q5, q6, q7⟩ := htx6 tb _ rfl
  subst q1
  have g0 : W3.cell? ⟨w.heap.size, 0, none⟩ = some (.pointer (some ⟨pb, 0, none⟩)) := bB6.at_ 0
  have g3 : W3.cell? ⟨pb, 3, none⟩ = some (.int .u64 r) := by rw [HR.out]; exact b6.at_ 3
  have g4 : W3.cell? ⟨pb, 4, none⟩ = some (.slice (some ⟨tb, 0, none⟩) v v) := by rw [HV.out]; exact b6.at_ 4
  have K2 := Hid.intro_ k2
  have K3 := Hid.intro_ k3
  have HPO3 := Hid.intro_ ((pn3.more (Z' := Z) (Keep.refl Nil W3) (fun x hx => .inl (.inl (.inl hx)))).open_)
  have hk3 : Hid (Keep (fun z => ¬ Z z) w W3) := Hid.intro_ (((K1.out.mono (fun _ _ h => h.elim : ∀ z, z < w.heap.size → Nil z → ¬ Z z)).trans k2 (fun z _ h hz => h (.inl hz))).trans k3 (fun _ _ h => h.elim))
  clear HB1 k2 pn2 bB2 k3 bT c0 c4 hse d0 hW3s
  go_upto_region 5 with (fail)
  rw [← hW3]
  clear hW3
  go_wp2_with fail
  go_ret
  exact ⟨rfl, ⟨tb, _, HPO3.out⟩, hk3.out⟩
end
end Go.Proofs.YtadipinnbehhhaaGreatDoor
namespace Go.Proofs.YtadipinnbehhhaaGreatDoor
open Go.RowKit

section
variable {l n : Nat} {P : Program} {ops : Array Oper} {Q : Exit → Act → World → Prop} {md : Region.Mode}
theorem wpOp_inRound (hno : ∀ (j : Nat) (o : Oper) (c : Call), ops[j]? = some o → o.op ≠ .defer c) (hlet : ¬ LetsOut Q) {i : Nat} {K K' : Act → World → Prop} {a : Act} {w : World} (h : wpOp P ops Q i K a w) (hK : ∀ a w, K a w → K' a w) :
    wpOpIn (Fence.wide.inRound l) n P ops Q i K' a w := by
  unfold wpOp at h
  unfold wpOpIn
  cases ho : ops[i]? with
  | none =>
    rw [ho] at h
    exact hK _ _ h
  | some o =>
    rw [ho] at h
    simp only at h ⊢
    split at h
    · rename_i hw
      rw [if_pos hw]
      rcases h with h | ⟨_, h⟩
      · refine ⟨fun _ _ => trivial, ?_⟩
        have e : o.semAt (Fence.wide.inRound l).round a.eval = execOp a.eval o := Oper.semAt_some l a.eval o (fun c => hno i o c ho)
        rw [e]
        unfold Oper.wp at h
        generalize (execOp a.eval o).run P w = r at h ⊢
        cases r with
        | ok x w' =>
          cases x <;> simp only [Oper.upon, Oper.uponIn] at h ⊢
          case value v => exact hK _ _ h
          case skip => exact hK _ _ h
          case defer d => exact hK _ _ h
          case enter f args =>
            refine ⟨(fun h9 => by cases h9), (CallsIn.inRound l (callsIn_wide.2 h)).mono (fun e w'' he => ?_)⟩
            cases e with
            | returned v => exact hK _ _ he
            | panicked c => exact he
            | outgrown => exact he
          case row r args =>
            refine ⟨(fun h9 => by cases h9), fun c cs _ => ?_⟩
            obtain ⟨v, w'', hr, hs⟩ := h c cs
            exact ⟨v, w'', hK _ _ hr, stepsIn_wide.2 hs⟩
        | halt x w' => cases x <;> simp only [Oper.upon, Oper.uponIn] at h ⊢ <;> exact h
      · exact absurd h hlet
    · rename_i hw
      rw [if_neg hw]
      exact ⟨fun _ _ => trivial, hK _ _ h⟩
theorem wpAny_inRound (hno : ∀ (j : Nat) (o : Oper) (c : Call), ops[j]? = some o → o.op ≠ .defer c) (hlet : ¬ LetsOut Q) : ∀ (fuel : Nat) (listed : Array Bool) (a : Act) (w : World), wpAny P md ops Q fuel listed a w → wpAnyIn (Fence.wide.inRound l) n P md ops Q fuel listed a w
  | 0, _, _, _, h => h
  | fuel + 1, _, _, _, h => ⟨h.1, fun i hi => wpOp_inRound hno hlet (h.2 i hi) (fun a w h => wpAny_inRound hno hlet fuel _ a w h)⟩
theorem region_inRound {S : World → Prop} {id : Nat} {a : Act} {w : World} (hm : P.follows .mixedOrders = true) (hno : ∀ (j : Nat) (o : Oper) (c : Call), ops[j]? = some o → o.op ≠ .defer c) (hlet : ¬ LetsOut Q)
    (h : wpAnyH P .any ops Q S ops.size (Array.replicate ops.size false) a { w with drawn := w.drawn + 1 }) : (Code.region id ops true).wpIn (Fence.wide.inRound l) n P Q a w :=
  wpIn_region_any hm (wpAny_inRound hno hlet _ _ _ _ (wpAny_of_held _ _ _ _ h))
end
end Go.Proofs.YtadipinnbehhhaaGreatDoor
