/- NodesAsks: what the reference says of a diagram: where its levels begin, where a node stands, how wide it is. NodesAsks: the program's Eval at a well-formed file. NodesAsks: lists of truths, opened. NodesAsks: two readers over one room. NodesAsks: two readers under way inside a whole operation. -/
import Derived.Deep.LoopGhost
import Derived.Test.YtadipinnbehhhaaGreatDoorAsksRowAR
import Derived.Test.YtadipinnbehhhaaGreatDoorAsksRowAQ
import Derived.Test.YtadipinnbehhhaaGreatDoorAsksRowAK
import Derived.Test.YtadipinnbehhhaaGreatDoorAsksRowAI
namespace Go.Proofs.YtadipinnbehhhaaGreatDoor
open Go.RowKit

/-- A row of words in one block. -/
def RowV (w : World) (g : Nat) (t : TypeId) (cs : List Value) : Prop := Blk w g t cs.toArray
section
variable {w w' : World} {g : Nat} {t : TypeId} {cs : List Value} {F : Nat → Prop}
theorem RowV.set (h : RowV w g t cs) (i : Nat) (u : Value) : RowV (w.setCell ⟨g, i, none⟩ u) g t (cs.set i u) := by
  have h2 := Blk.set_ h i u
  rw [List.setIfInBounds_toArray] at h2
  exact h2
theorem RowV.at_ (h : RowV w g t cs) {i : Nat} {u : Value} (hi : cs[i]? = some u) : w.cell? ⟨g, i, none⟩ = some u := by
  rw [Blk.at_ h i]
  simpa using hi
theorem RowV.fr (h : RowV w g t cs) (i : Nat) : w.frozen? ⟨g, i, none⟩ = false := Blk.fr h i
theorem RowV.keep (h : RowV w g t cs) (k : Keep F w w') (hn : ¬ F g) : RowV w' g t cs := Blk.keep h k hn
theorem RowV.rd (h : RowV w g t cs) : Rd w (some ⟨g, 0, none⟩) cs := fun j u hu => ⟨_, rfl, by rw [add_at, Nat.zero_add]; exact h.at_ hu⟩
theorem RowV.lt (h : RowV w g t cs) : g < w.heap.size := Blk.lt h
theorem own_full {base n : Nat} (h : w.ownsRow base t 1 (.slice (some ⟨g, 0, none⟩) n n) n cs) (_hc : cs.length = n) : RowV w g t cs := by
  rcases h.2 with ⟨e, _⟩ | ⟨g', cap, cur, e, _, hh, hle, _, hs, ht⟩
  · cases e
  · injection e with e1 e2 e3
    injection e1 with e1
    injection e1 with e1
    subst e1 e3
    have : cur.toList = cs := by
      rw [← ht, List.take_of_length_le]
      rw [Array.length_toList, hs]
      omega
    unfold RowV
    rw [← this]
    exact hh
end
def ints (l : List Int) : List Value := l.map (Value.int .i64)
theorem ints_at {l : List Int} {i : Nat} {x : Int} (h : l[i]? = some x) : (ints l)[i]? = some (.int .i64 x) := by
  unfold ints
  rw [List.getElem?_map, h]
  rfl
theorem ints_set (l : List Int) (i : Nat) (x : Int) : (ints l).set i (.int .i64 x) = ints (l.set i x) := by
  unfold ints
  rw [List.map_set]
theorem info_int9 : (Tryz.prog.info? 3).map (fun i => (i.zero, i.size, i.bytes)) = some (some (.int .i64 0), 1, 8) := by kernel_rfl
theorem info_bool9 : (Tryz.prog.info? 4).map (fun i => (i.zero, i.size, i.bytes)) = some (some (.bool false), 1, 1) := by kernel_rfl
/-- A diagram as a value. -/
def dgV (d : Dg) (A : Option Addr) (cap : Nat) : Value := .agg #[.int .i64 d.v, .int .u64 d.r, .int .i64 d.m, .slice A d.P.length cap]
/-- A diagram in memory. -/
structure DgAt (w : World) (d : Dg) (A : Option Addr) : Prop where
  rd : Rd w A (ndCells d.P)
  spot : ∀ a, A = some a → a.spot = none
theorem DgAt.nil {w w' : World} {d : Dg} {A : Option Addr} (h : DgAt w d A) (k : Keep Nil w w') : DgAt w' d A := ⟨h.rd.keep k (fun _ _ _ h => h), h.spot⟩
theorem node_lv {d : Dg} (h : InRows d) {n : N3} (hn : n ∈ d.P) : 0 ≤ sL n.self ∧ sL n.self < d.v := by
  have h1 := h.node hn
  unfold isN nOk at h1
  simp only [Bool.and_eq_true, decide_eq_true_eq] at h1
  exact ⟨(sL_lt _).1, h1.1.1.1.1.2⟩
theorem startsN_bd (v : Nat) (P : List N3) : ∀ i, ∀ x ∈ startsN v P i, -1 ≤ x ∧ x ≤ (i : Int)
  | 0, x, hx => by
    unfold startsN at hx
    rw [(List.mem_replicate.1 hx).2]
    omega
  | i + 1, x, hx => by
    have ih := startsN_bd v P i
    unfold startsN at hx
    split at hx
    · have := ih x hx; omega
    · split at hx
      · rcases List.mem_or_eq_of_mem_set hx with h1 | h1
        · have := ih x h1; omega
        · rw [h1]; omega
      · have := ih x hx; omega
set_option maxRecDepth 100000 in
set_option maxHeartbeats 4000000 in
theorem starts_any (d : Dg) (A : Option Addr) (cap : Nat) (w : World) (hd : InRows d) (hr : DgAt w d A) :
    Calls Tryz.prog 96 #[dgV d A cap] w fun e w' => ∃ g, e = .returned (.slice (some ⟨g, 0, none⟩) d.v d.v) ∧ w.heap.size ≤ g ∧ RowV w' g 3 (ints d.starts) ∧ Keep Nil w w' := by
  obtain ⟨i1, hi1, hz0, hz1, hz2⟩ := info_parts info_int9
  obtain ⟨v, hv⟩ : ∃ v, v = d.v := ⟨_, rfl⟩
  obtain ⟨r, hr9⟩ : ∃ r, r = d.r := ⟨_, rfl⟩
  obtain ⟨m, hm⟩ : ∃ m, m = d.m := ⟨_, rfl⟩
  obtain ⟨N, hN⟩ : ∃ N, N = d.P.length := ⟨_, rfl⟩
  obtain ⟨W0, hW0⟩ : ∃ W0, W0 = w.alloc (.cells #[.int .i64 v, .int .u64 r, .int .i64 m, .slice A N cap] 86) := ⟨_, rfl⟩
  have HK0 := Hid.intro_ (show Keep Nil w W0 by rw [hW0]; exact (Keep.refl Nil w).alloc _)
  have HW0S := Hid.intro_ (show W0.heap.size = w.heap.size + 1 by rw [hW0]; simp)
  have HB0 := Hid.intro_ (show Blk W0 w.heap.size 86 #[.int .i64 v, .int .u64 r, .int .i64 m, .slice A N cap] by rw [hW0]; exact Blk.new w _ _)
  have i0w : W0.cell? ⟨w.heap.size, 0, none⟩ = some (.int .i64 v) := HB0.out.at_ 0
  have hvl : v ≤ 65536 := by rw [hv]; exact hd.vars
  have hNl : N ≤ 1099511627776 := by have := hd.len; have := hd.lt; omega
  have HV := Hid.intro_ hv
  have HNN := Hid.intro_ hN
  have HST := Hid.intro_ (show d.starts = startsN v d.P N by unfold Dg.starts; rw [hv, hN, hd.len])
  have HD := Hid.intro_ hd
  have HR := Hid.intro_ hr
  unfold dgV
  rw [← hv, ← hr9, ← hm, ← hN]
  clear hv hr9 hm hN hd hr
  go_enter Tryz.func96, Tryz.ntmps96
  go_upto_region 1 with (fail)
  rw [← hW0]
  clear hW0
  go_wp2_with (at_make; refine wpList_make_full _ rfl _ _ 68 rfl W0.heap.size 3 i1 (.int .i64 0) 1 Tryz.underlying68 hi1 hz0 hz1 .i64 .i64 _ _ v rfl rfl rfl rfl (by rw [hz2]; omega) (by unfold maxLen; omega) (Nat.le_refl _) ?_; intro w1 ho1 k1)
  have hrow : Hid (RowV w1 W0.heap.size 3 (ints (List.replicate v 0))) := Hid.intro_ (by
    have e : (madeCells (Value.int .i64 0).cells (v * 1)).toList = ints (List.replicate v 0) := by
      rw [Nat.mul_one]
      unfold ints
      rw [List.map_replicate]
      exact toList_madeCells_one _ _
    rw [e] at ho1
    exact own_full ho1 (by simp [ints]))
  have HK1 : Hid (Keep Nil W0 w1) := Hid.intro_ ((Keep.of_grown k1).mono (fun _ _ h => by cases h))
  clear ho1 k1
  go_loopw [4] (fun i wr => ∃ (k : Nat) (l : List Int), k ≤ v ∧ i = .int .i64 k ∧ Hid (RowV wr W0.heap.size 3 (ints l)) ∧ Hid (l.length = v ∧ ∀ j, j < k → l[j]? = some (-1)) ∧ Hid (Keep Nil W0 wr)) (fun i _ => v - (intOf i).toNat)
  case atStart => exact ⟨0, _, Nat.zero_le _, rfl, hrow, Hid.intro_ ⟨by simp, fun j hj => by omega⟩, HK1⟩
  case round =>
    obtain ⟨k, l, hkm, rfl, HO, HL, HK⟩ := hrel
    by_cases hlt : k < v
    · have hki : (k : Int) < (v : Int) := by omega
      have hk0 : (0 : Int) ≤ (k : Int) := by omega
      obtain ⟨x, hx⟩ : ∃ x, l[k]? = some x := ⟨_, List.getElem?_eq_getElem (by have := HL.out.1; omega)⟩
      have c0 := HO.out.at_ (ints_at hx)
      have f0 := HO.out.fr k
      clear hx
      go_wp2_with fail
      go_roundw
      case rel =>
        refine ⟨k + 1, l.set k (-1), by omega, by go_num, Hid.intro_ ?_, Hid.intro_ ⟨?_, fun j hj => ?_⟩, Hid.intro_ ?_⟩
        · rw [← ints_set]; exact HO.out.set k _
        · rw [List.length_set]; exact HL.out.1
        · rw [List.getElem?_set]
          have h1 := HL.out.1
          split
          · rw [if_pos (by omega)]
          · exact HL.out.2 j (by omega)
        · exact HK.out.trans ((Keep.refl (fun z => z = W0.heap.size) wr).setCell (p := ⟨W0.heap.size, k, none⟩) (fun _ => rfl) _) (fun b hb e => by have e : b = W0.heap.size := e; omega)
      case measure => simp [intOf]; omega
    · obtain rfl : k = v := by omega
      have hll : l = startsN k d.P 0 := by
        show l = List.replicate k (-1)
        refine List.eq_replicate_iff.2 ⟨HL.out.1, fun b hb => ?_⟩
        obtain ⟨j, hj⟩ := List.getElem?_of_mem hb
        have h1 := (List.getElem?_eq_some_iff.1 hj).1
        have h2 := HL.out.2 j (by have := HL.out.1; omega)
        rw [hj] at h2
        injection h2
      subst hll
      have HL1 := HL
      clear HL
      go_wp2_with fail
      go_loopw [5] (fun i wz => ∃ (q : Nat), q ≤ N ∧ i = .int .i64 q ∧ Hid (RowV wz W0.heap.size 3 (ints (startsN k d.P q))) ∧ Hid (Keep Nil W0 wz)) (fun i _ => N - (intOf i).toNat)
      case atStart => exact ⟨0, Nat.zero_le _, rfl, HO, HK⟩
      case round =>
        obtain ⟨q, hqm, rfl, HO, HK⟩ := hrel
        have bI := HB0.out.keep HK.out (fun h => h)
        have i3 : wr.cell? ⟨w.heap.size, 3, none⟩ = some (.slice A N cap) := bI.at_ 3
        have hbl := bI.lt
        clear bI
        by_cases hlq : q < N
        · obtain ⟨n, hn⟩ : ∃ n, d.P[q]? = some n := ⟨_, List.getElem?_eq_getElem (by have := HNN.out; omega)⟩
          obtain ⟨g, o, hAe, p0, p1, p2⟩ := nd_at (((HR.out.nil HK0.out).nil HK.out).rd) hn HR.out.spot
          subst hAe
          have hmem := List.mem_of_getElem? hn
          have hlv := node_lv HD.out hmem
          obtain ⟨lv, hlv2⟩ : ∃ lv : Nat, sL n.self = (lv : Int) := ⟨(sL n.self).toNat, by omega⟩
          have hlvk : lv < k := by have := HV.out; omega
          have hsp := rsplit_t n.self (by have := (HD.out.okn n hmem).1; omega) wr
          rw [hlv2] at hsp
          have HSP := Hid.intro_ hsp
          have hqi : (q : Int) < (N : Int) := by omega
          have hq0 : (0 : Int) ≤ (q : Int) := by omega
          have hl0 : (0 : Int) ≤ (lv : Int) := by omega
          have hl1 : (lv : Int) < (k : Int) := by omega
          obtain ⟨x, hx⟩ : ∃ x, (startsN k d.P q)[lv]? = some x := ⟨_, List.getElem?_eq_getElem (by rw [startsN_len]; omega)⟩
          have c0 := HO.out.at_ (ints_at hx)
          have f0 := HO.out.fr lv
          have hstep : Hid (startsN k d.P (q + 1) = if sI n.self = 0 then (startsN k d.P q).set lv q else startsN k d.P q) := Hid.intro_ (by
            show (match d.P[q]? with | none => _ | some n => if sI n.self = 0 then _ else _) = _
            rw [hn]
            simp only
            rw [hlv2, Int.toNat_natCast])
          obtain ⟨id, hid⟩ : ∃ id, id = sI n.self := ⟨_, rfl⟩
          rw [← hid] at HSP hstep
          clear hn hx hmem hlv hlv2 hsp hid
          by_cases h0 : id = 0
          · subst h0
            have HS2 := Hid.intro_ (show startsN k d.P (q + 1) = (startsN k d.P q).set lv q by rw [hstep.out, if_pos rfl])
            clear hstep
            go_wp2_with (go_at_call 82; refine HSP.out.mono ?_; rintro e w' ⟨rfl, hw⟩; obtain rfl := hw.symm)
            go_roundw
            case rel =>
              refine ⟨q + 1, by omega, by go_num, Hid.intro_ ?_, Hid.intro_ ?_⟩
              · rw [HS2.out, ← ints_set]; exact HO.out.set lv _
              · exact HK.out.trans ((Keep.refl (fun z => z = W0.heap.size) wr).setCell (p := ⟨W0.heap.size, lv, none⟩) (fun _ => rfl) _) (fun b hb e => by have e : b = W0.heap.size := e; omega)
            case measure => simp [intOf]; omega
          · have HS2 := Hid.intro_ (show startsN k d.P (q + 1) = startsN k d.P q by rw [hstep.out, if_neg h0])
            have hq : (id == 0) = false := by simpa using h0
            clear hstep h0
            go_wp2_with (go_at_call 82; refine HSP.out.mono ?_; rintro e w' ⟨rfl, hw⟩; obtain rfl := hw.symm)
            go_roundw
            case rel => exact ⟨q + 1, by omega, by go_num, Hid.intro_ (by rw [HS2.out]; exact HO.out), HK⟩
            case measure => simp [intOf]; omega
        · obtain rfl : q = N := by omega
          have HX := Hid.intro_ (show RowV wr W0.heap.size 3 (ints d.starts) by rw [HST.out]; exact HO.out)
          have HGS : Hid (w.heap.size ≤ W0.heap.size) := Hid.intro_ (by have := HW0S.out; omega)
          go_wp2_with fail
          go_ret
          exact ⟨_, rfl, HGS.out, HX.out, HK0.out.then_ HK.out⟩
end Go.Proofs.YtadipinnbehhhaaGreatDoor
namespace Go.Proofs.YtadipinnbehhhaaGreatDoor
open Go.RowKit

def boolsV (l : List Bool) : List Value := l.map (Value.bool)
theorem bl_at {w : World} {A : Option Addr} {l : List Bool} (h : Rd w A (boolsV l)) {k : Nat} {x : Bool} (hx : l[k]? = some x) (hs : ∀ a, A = some a → a.spot = none) :
    ∃ g o, A = some ⟨g, o, none⟩ ∧ w.cell? ⟨g, o + k, none⟩ = some (.bool x) := by
  obtain ⟨⟨g, o, sp⟩, rfl, c0⟩ := h k _ (by unfold boolsV; rw [List.getElem?_map, hx]; rfl)
  obtain rfl : sp = none := hs _ rfl
  rw [add_at] at c0
  exact ⟨g, o, rfl, c0⟩
/-- What stands ahead of a whole operation at a well-formed file. -/
structure AkP (c : Cx) (fs : List (ByteArray × AFile)) (name : ByteArray) (d : Dg) (s : RSt) : Prop where
  tape : TapeOn c fs name 2 (recsD d)
  calm : Calm s.D c.block fs
  ok : DgOk d
  opn : s.S.closed = false
  hand : s.S.hand = 0
  parts : s.S.parts = 0
  lim : 64 * (c.K : Int) ≤ s.S.limit
  K9 : c.K ≤ 65536
section
variable {c : Cx} {w w' : World} {G : Nat → Prop} {s s' : RSt} {fs : List (ByteArray × AFile)} {name : ByteArray} {d : Dg}
theorem AkP.frees (P : AkP c fs name d s) : 64 * (c.K : Int) ≤ s.S.frees := by
  rw [frees_open P.opn, P.hand, P.parts]
  have := P.lim
  omega
theorem AkP.step {j : Nat} (P : AkP c fs name d s) (h : Went j 0 s s') : AkP c fs name d s' :=
  ⟨P.tape, h.calm P.calm, P.ok, by rw [h.closed]; exact P.opn, by rw [h.hand, P.hand]; rfl, by rw [h.parts]; exact P.parts, by rw [h.limit]; exact P.lim, P.K9⟩
theorem AkP.begins (P : AkP c fs name d s) (h : RmAt c w G s) : Calls Tryz.prog 91 #[.pointer (some ⟨c.k, 0, none⟩), .slice (some ⟨w.heap.size, 0, none⟩) 1 1] (w.alloc (.cells #[.string name] 9)) fun e w' => e = .returned (.int .i64 0) ∧ RmTo c G s w w' := by
  have ka : Keep Nil w (w.alloc (.cells #[.string name] 9)) := (Keep.refl Nil w).alloc _
  have hb := Blk.new w 9 #[.string name]
  exact (begins_ok w.heap.size 1 (h.nil ka) P.calm P.frees P.K9 (ready1 w.heap.size (h.nil ka) P.calm P.tape (hb.at_ 0))).mono fun e w1 ⟨he, t⟩ => ⟨he, t.from_nil ka⟩
theorem AkP.look (P : AkP c fs name d s) (h : RmAt c w G s) : Calls Tryz.prog 26 #[.pointer (some ⟨c.k, 0, none⟩), .string name] w fun e w' => e = .returned (.tuple #[.agg #[.int .i64 d.v, .int .u64 d.r, .int .i64 d.m], .int .i64 0]) ∧ WentTo c G 1 0 s w w' := by
  have := look_any h (LookAns.tape fs (recsD d) P.tape P.calm P.opn (by rw [P.hand]; omega) (by rw [P.hand, P.parts]; have := P.lim; omega))
  rw [P.ok.rows.ends] at this
  exact this
theorem AkP.down (P : AkP c fs name d s) (h : RmAt c w G s) : Calls Tryz.prog 92 #[.agg #[], .pointer (some ⟨c.k, 0, none⟩), .string name] w fun e w' => ∃ b, e = .returned (.tuple #[.pointer (some ⟨b, 0, none⟩), .int .i64 0]) ∧ w.heap.size ≤ b ∧ OpR c name 2 (recsD d) true b G s (d.P.map N3.rec4).reverse 1 w w' := by
  have := downopen_tape (r := ⟨18446744073709551615, d.v, d.r, d.m⟩) (rest := (d.P.map N3.rec4).reverse) h P.tape P.calm P.opn (by rw [P.hand, P.parts]; have := P.lim; omega) (by
    unfold recsD
    rw [List.reverse_append]
    rfl)
  exact this
/-- What an Eval holds on to. -/
structure EvOn (X : KX) (bits : List Bool) (k pn : Nat) (w : World) : Prop where mk ::
  cur : CuK X k w
  ev : ∃ f, EvI X.d bits pn f
  reach : sF pn = false → ∃ j x, j < X.d.m - k ∧ X.d.P[j]? = some x ∧ x.self = pn
  le : k ≤ X.d.m
theorem sV_is (p : Nat) : sV p = ((p : Int) == 9223372036854775809) := by
  unfold sV
  by_cases h : p = 9223372036854775809
  · subst h; rfl
  · rw [decide_eq_false h]
    have : ¬ (p : Int) = 9223372036854775809 := by omega
    simp [this]
set_option maxRecDepth 100000 in
set_option maxHeartbeats 8000000 in
theorem eval_bad (P : AkP c fs name d s) (h : RmAt c w G s) (B : Option Addr) (bits : List Bool) (bc : Nat) (hn : ¬ bits.length = d.v) (_hbl : bits.length < 9223372036854775808) :
    Calls Tryz.prog 36 #[.pointer (some ⟨c.k, 0, none⟩), .string name, .slice B bits.length bc] w fun e w' => e = .returned (.tuple #[.bool false, .int .i64 1]) ∧ WentTo c G 1 0 s w w' := by
  have HBG := Hid.intro_ (P.begins h)
  have HP := Hid.intro_ P
  have HLK := Hid.intro_ (fun W G' (h' : RmAt c W G' s) => P.look h')
  obtain ⟨n, hnn⟩ : ∃ n, n = bits.length := ⟨_, rfl⟩
  obtain ⟨v, hv⟩ : ∃ v, v = d.v := ⟨_, rfl⟩
  obtain ⟨r, hr⟩ : ∃ r, r = d.r := ⟨_, rfl⟩
  obtain ⟨m, hm⟩ : ∃ m, m = d.m := ⟨_, rfl⟩
  rw [← hv, ← hr, ← hm] at HLK
  rw [← hnn, ← hv] at hn
  rw [← hnn]
  have q : ((n : Int) != (v : Int)) = true := by
    have : ¬ (n : Int) = (v : Int) := by omega
    simpa using this
  clear h P hnn _hbl hv hr hm hn
  go_enter_defers Tryz.func36, Tryz.ntmps36
  go_wp2_with fail
  refine HBG.out.mono ?_
  rintro e w2 ⟨rfl, G2, h2, s2⟩
  have HL2 := Hid.intro_ (HLK.out w2 G2 h2)
  have S2 := Hid.intro_ s2
  clear h2 s2
  go_wp2_with fail
  refine HL2.out.mono ?_
  rintro e w3 ⟨rfl, t3⟩
  have T3 := Hid.intro_ t3
  clear t3
  go_wp2_with fail
  obtain ⟨j, s', hj, hw, G3, h3, s3⟩ := T3.out
  simp only [bodyPostD, Leaves]
  refine ⟨.tuple #[.bool false, .int .i64 1], by simp [results, Tryz.results36, go_sem], rfl, ?_⟩
  exact ⟨j, s', hj, hw, G3, h3.nil ((Keep.refl Nil w3).alloc _), (S2.out.trans s3).then_nil ((Keep.refl Nil w3).alloc _)⟩
theorem down_ok (P : AkP c fs name d s) : ∀ k n, d.P.reverse[k]? = some n → (n.rec4.isN d.v && fitsB false d.r d.m k (prevN d.P.reverse n0 k) n) = true := by
  intro k n hn
  have h := P.ok.rows.down
  rw [← List.map_reverse] at h
  have := walk_at d.P.reverse 0 n0 h k n hn
  rw [Nat.zero_add] at this
  exact this
/-- The frame of an Eval. -/
def evX (c : Cx) (name : ByteArray) (d : Dg) (cb b : Nat) (G0 : Nat → Prop) (s0 : RSt) (Y : World) (Q : Nat) : KX :=
  { c := c, name := name, L := recsD d, up := false, d := d, P := d.P.reverse, tl := [], cb := cb, b := b, G0 := G0, s0 := s0, H := Nil, Y := Y, Q := Q }
theorem evX_ok {cb b Q j : Nat} {h : Int} {G0 : Nat → Prop} {s0 : RSt} {Y : World} (P : AkP c fs name d s) (hw : Went j h s s0) : KOk (evX c name d cb b G0 s0 Y Q) fs := {
  tape := P.tape
  calm := hw.calm P.calm
  at_ := down_ok P
  len := by show d.P.reverse.length = d.m; rw [List.length_reverse]; exact P.ok.rows.len
  lt := Nat.le_of_lt P.ok.rows.lt
  vars := P.ok.rows.vars
  okn n hn := by
    have hn : n ∈ d.P.reverse := hn
    obtain ⟨a, b, e⟩ := P.ok.rows.okn n (List.mem_reverse.1 hn)
    exact ⟨a, b, e, Nat.succ_pos _⟩ }
theorem EvOn.start {cb b Q q : Nat} {G0 : Nat → Prop} {s0 : RSt} {Y : World} {x : RdSt} {bits : List Bool} (ok : DgOk d) (hc : CurAt c Y cb b G0 s0 x { up := false, vars := d.v, root := d.r, nodes := d.m, given := 0, last := ⟨0, 0, 0⟩, dead := 0, done := false }) (hv : RdLive c name 2 (recsD d) true x q (d.P.map N3.rec4).reverse) (hq : q ≤ Q) : EvOn (evX c name d cb b G0 s0 Y Q) bits 0 d.r Y := by
  refine ⟨CuK.start (X := evX c name d cb b G0 s0 Y Q) hc ?_ hq (fun z hz => hz.elim) (fun z hz => hz.elim), ⟨_, EvI.start ok⟩, fun hs => ?_, Nat.zero_le _⟩
  · have e : (evX c name d cb b G0 s0 Y Q).rem 0 = (d.P.map N3.rec4).reverse := by
      show (d.P.reverse.drop 0).map N3.rec4 ++ [] = _
      rw [List.drop_zero, List.append_nil, List.map_reverse]
    rw [e]
    exact hv
  · obtain ⟨i, n, hn, hp, _⟩ := (EvI.start (bits := bits) ok).at_ hs
    have := (List.getElem?_eq_some_iff.1 hn).1
    exact ⟨i, n, by show i < d.m - 0; rw [← ok.rows.len]; omega, hn, hp⟩
/-- A node is taken. -/
theorem EvOn.step {X : KX} {bits : List Bool} {k pn : Nat} {n : N3} (ok : DgOk X.d) (h : EvOn X bits k pn w) (hs : sF pn = false) (hk : k < X.d.m) (hn : X.d.P[X.d.m - 1 - k]? = some n) (hc : CuK X (k + 1) w') :
    (n.self = pn → EvOn X bits (k + 1) (kid bits n) w') ∧ (¬ n.self = pn → EvOn X bits (k + 1) pn w') := by
  obtain ⟨f, hev⟩ := h.ev
  refine ⟨fun e => ?_, fun e => ?_⟩
  · obtain ⟨h1, h2⟩ := hev.step ok hs hn e
    refine ⟨hc, ⟨_, h1⟩, fun hs2 => ?_, hk⟩
    obtain ⟨j, x, hj, hx, hxp⟩ := h2 hs2
    exact ⟨j, x, by omega, hx, hxp⟩
  · refine ⟨hc, ⟨f, hev⟩, fun hs2 => ?_, hk⟩
    obtain ⟨j, x, hj, hx, hxp⟩ := h.reach hs2
    refine ⟨j, x, ?_, hx, hxp⟩
    rcases Nat.lt_or_ge j (X.d.m - (k + 1)) with h3 | h3
    · exact h3
    · have : j = X.d.m - 1 - k := by omega
      subst this
      rw [hn] at hx
      injection hx with hx
      rw [hx] at e
      exact absurd hxp e
theorem EvOn.nil {X : KX} {bits : List Bool} {k pn : Nat} (h : EvOn X bits k pn w) (kn : Keep Nil w w') : EvOn X bits k pn w' := ⟨h.cur.nil kn, h.ev, h.reach, h.le⟩
theorem kid_t {bits : List Bool} {n : N3} {l : Nat} {b : Bool} (hl : sL n.self = (l : Int)) (hb : bits[l]? = some b) : kid bits n = if b = true then n.high else n.low := by
  unfold kid
  rw [hl, Int.toNat_natCast, List.getD_eq_getElem?_getD, hb]
  rfl
/-- Open, read, close: nothing stays but the reads. -/
theorem whole_fin {w1 w3 w4 w9 : World} {X : KX} {G3 G4 : Nat → Prop} {s3 : RSt} {j0 j4 : Nat} (hX : X.G0 = G4 ∧ X.c = c ∧ X.H = Nil) (hw : Went j0 0 s s3) (hw4 : Went j4 c.K s3 X.s0) (s1 : Stp w G w3 G3) (k3 : Keep Nil w3 w1) (s4 : Stp w1 G3 w4 G4) (hY : X.Y = w4) (hd : DnK X w9) (J : Nat) (hJ : X.Q + j4 + j0 ≤ J) : WentTo c G J 0 s w w9 := by
  obtain ⟨hG, hc, hH⟩ := hX
  obtain ⟨G9, s9, j9, a, b, r⟩ := hd.out
  rw [hc] at r
  have hk := a.keep
  rw [hG, hH, hY] at hk
  have hg := a.grow
  rw [hG, hY] at hg
  have t : Stp w4 G4 w9 G9 := ⟨hk.mono (fun z _ h => h.elim id (fun h => h.elim)), hg⟩
  have hwn := a.went
  rw [hc] at hwn
  exact ⟨_, s9, (show j9 + (j4 + j0) ≤ J by omega), ((hw.trans hw4).trans hwn).of_eq rfl (by omega), G9, r, ((s1.then_nil k3).trans s4).trans t⟩
set_option maxRecDepth 100000 in
set_option maxHeartbeats 16000000 in
theorem eval_good (P : AkP c fs name d s) (h : RmAt c w G s) (B : Option Addr) (bits : List Bool) (bc : Nat) (hn : bits.length = d.v) (hB : Rd w B (boolsV bits)) (hBs : bits ≠ [] → ∀ a, B = some a → a.spot = none) (hBG : bits ≠ [] → ∀ a, B = some a → ¬ G a.block ∧ a.block < w.heap.size) :
    Calls Tryz.prog 36 #[.pointer (some ⟨c.k, 0, none⟩), .string name, .slice B bits.length bc] w fun e w' => e = .returned (.tuple #[.bool (d.eval bits), .int .i64 0]) ∧ WentTo c G (nblk c.K (recsD d).length + 1) 0 s w w' := by
  have HBG := Hid.intro_ (P.begins h)
  have HP := Hid.intro_ P
  have HLK := Hid.intro_ (fun W G' (h' : RmAt c W G' s) => P.look h')
  have HDN := Hid.intro_ (fun (s3 : RSt) (j : Nat) (hw : Went j 0 s s3) W G' (h' : RmAt c W G' s3) => (P.step hw).down h')
  obtain ⟨n, hnn⟩ : ∃ n, n = bits.length := ⟨_, rfl⟩
  obtain ⟨v, hv⟩ : ∃ v, v = d.v := ⟨_, rfl⟩
  obtain ⟨r, hr⟩ : ∃ r, r = d.r := ⟨_, rfl⟩
  obtain ⟨m, hm⟩ : ∃ m, m = d.m := ⟨_, rfl⟩
  obtain ⟨an, han⟩ : ∃ an, an = d.eval bits := ⟨_, rfl⟩
  rw [← hv, ← hr, ← hm] at HLK
  rw [← hnn, ← hv] at hn
  rw [← hnn, ← han]
  have q : ((n : Int) != (v : Int)) = false := by rw [hn]; simp
  have HV := Hid.intro_ hv
  have HR := Hid.intro_ hr
  have HM := Hid.intro_ hm
  have HNN := Hid.intro_ hnn
  have HN := Hid.intro_ hn
  have HAN := Hid.intro_ han
  have HBB := Hid.intro_ hB
  have HBS := Hid.intro_ hBs
  have HBK := Hid.intro_ hBG
  have hn16 : n ≤ 65536 := by rw [hn, hv]; exact P.ok.rows.vars
  clear h P hnn hv hr hm hn han hB hBs hBG
  go_enter_defers Tryz.func36, Tryz.ntmps36
  go_wp2_with fail
  refine HBG.out.mono ?_
  rintro e w2 ⟨rfl, G2, h2, s2⟩
  have HL2 := Hid.intro_ (HLK.out w2 G2 h2)
  have S2 := Hid.intro_ s2
  clear h2 s2
  go_wp2_with fail
  refine HL2.out.mono ?_
  rintro e w3 ⟨rfl, j, s3, hj, hw, G3, h3, s3'⟩
  obtain ⟨W, hW⟩ : ∃ W, W = w3.alloc (.cells #[.int .i64 v, .int .u64 r, .int .i64 m] 72) := ⟨_, rfl⟩
  have kW : Keep Nil w3 W := by rw [hW]; exact (Keep.refl Nil w3).alloc _
  have bW : Blk W w3.heap.size 72 #[.int .i64 v, .int .u64 r, .int .i64 m] := by rw [hW]; exact Blk.new w3 _ _
  have HDW := Hid.intro_ (HDN.out s3 j hw W G3 (h3.nil kW))
  have hoff := Hid.intro_ (show Off c.E G3 w3.heap.size from Off.new h3.env h3.lt (Nat.le_refl _))
  have S3 := Hid.intro_ (S2.out.trans s3')
  have HW := Hid.intro_ hw
  have KW := Hid.intro_ kW
  have BW := Hid.intro_ bW
  have i0 : W.cell? ⟨w3.heap.size, 0, none⟩ = some (.int .i64 v) := bW.at_ 0
  have WLT : Hid (w3.heap.size < W.heap.size) := Hid.intro_ bW.lt
  clear h3 hw s3' kW bW
  go_wp2_with fail
  rw [← hW]
  clear hW
  go_wp2_with fail
  refine HDW.out.mono ?_
  rintro e w4 ⟨b, rfl, hb, ho⟩
  obtain ⟨j4, q4, x4, s4, g1, g2, g3, g4, G4, h4, s4'⟩ := ho.out
  have b4 := BW.out.keep s4'.keep hoff.out.1
  have e0 : w4.cell? ⟨w3.heap.size, 0, none⟩ = some (.int .i64 v) := b4.at_ 0
  have e1 : w4.cell? ⟨w3.heap.size, 1, none⟩ = some (.int .u64 r) := b4.at_ 1
  have e2 : w4.cell? ⟨w3.heap.size, 2, none⟩ = some (.int .i64 m) := b4.at_ 2
  have lt4 := b4.lt
  obtain ⟨C, hC⟩ : ∃ C, C = w4.alloc (.cells #[.pointer (some ⟨b, 0, none⟩), .iface 175 (.agg #[]), .int .i64 v, .int .u64 r, .int .i64 m, .int .i64 0, .int .u64 0, .int .u64 0, .int .u64 0, .int .i64 0, .bool false] 195) := ⟨_, rfl⟩
  have kC : Keep Nil w4 C := by rw [hC]; exact (Keep.refl Nil w4).alloc _
  have hcur : CurAt c C w4.heap.size b (fun z => G4 z ∨ z = w4.heap.size) s4 x4 { up := false, vars := d.v, root := d.r, nodes := d.m, given := 0, last := ⟨0, 0, 0⟩, dead := 0, done := false } := by
    refine ⟨⟨G4, rfl, h4.nil kC, Off.new h4.env h4.lt (Nat.le_refl _)⟩, ?_⟩
    rw [hC, ← HV.out, ← HR.out, ← HM.out]
    exact Blk.new w4 _ _
  have hstart := EvOn.start (bits := bits) (Q := q4) HP.out.ok hcur g4 (Nat.le_refl _)
  have HST := Hid.intro_ hstart
  have sC : Stp W G3 C (fun z => G4 z ∨ z = w4.heap.size) := ⟨s4'.keep.trans kC (fun _ _ h => h.elim), fun z hz => hz.elim (fun h => s4'.grow z h) (fun e => .inr (by rw [e]; exact s4'.keep.size))⟩
  have hKO := Hid.intro_ (evX_ok (cb := w4.heap.size) (b := b) (Q := q4) (G0 := (fun z => G4 z ∨ z = w4.heap.size)) (Y := C) HP.out (HW.out.trans g3))
  have y1 := cell_keep e1 kC (fun h => h)
  have HBC : Hid (bits ≠ [] → ∀ a, B = some a → ¬ (G4 a.block ∨ a.block = w4.heap.size)) := Hid.intro_ (fun hne a ha hf => by
    obtain ⟨q1, q2⟩ := HBK.out hne a ha
    have hz3 := S3.out.off q2 q1
    have hl3 := Nat.lt_of_lt_of_le q2 S3.out.keep.size
    have hlW := Nat.lt_trans hl3 WLT.out
    rcases hf with hf | hf
    · exact s4'.off hlW hz3 hf
    · have := s4'.keep.size
      omega)
  have HBR : Hid (Rd C B (boolsV bits)) := Hid.intro_ (by
    by_cases hne : bits = []
    · subst hne; exact fun i u hu => by simp [boolsV] at hu
    · have r1 := HBB.out.keep S3.out.keep (fun a ha _ => (HBK.out hne a ha).1)
      have r2 := (r1.keep KW.out (fun _ _ _ h => h)).keep s4'.keep (fun a ha _ hf => by
        obtain ⟨q1, q2⟩ := HBK.out hne a ha
        exact S3.out.off q2 q1 hf)
      exact r2.keep kC (fun _ _ _ h => h))
  have HS4 := Hid.intro_ s4'
  have SC := Hid.intro_ sC
  have G3' := Hid.intro_ g3
  have hle4 := Hid.intro_ g2
  clear ho h4 s4' g3 g4 b4 hcur hstart sC kC
  go_wp2_with fail
  rw [← hC]
  clear hC
  go_wp2_with fail
  go_loopg [13] (d.m + 1) (fun gk p wr => ∃ (k pn : Nat), p = .int .u64 pn ∧ gk = d.m - k + 1 ∧ Hid (EvOn (evX c name d w4.heap.size b (fun z => G4 z ∨ z = w4.heap.size) s4 C q4) bits k pn wr))
  case atStart => exact ⟨0, d.r, by rw [HR.out], by omega, HST⟩
  case round =>
    obtain ⟨k, pn, rfl, hgk, HE⟩ := hrel
    have HGK := Hid.intro_ hgk
    clear hgk
    obtain ⟨f, hev⟩ := HE.out.ev
    have hpl := hev.lt
    have HEV := Hid.intro_ hev
    obtain ⟨lf, hlf⟩ : ∃ lf, lf = sF pn := ⟨_, rfl⟩
    have HLF := Hid.intro_ (leaf_any pn wr)
    rw [← hlf] at HLF
    clear hev
    cases lf with
    | true =>
      have hfin := HEV.out.ends hlf.symm
      have HFIN := Hid.intro_ (show d.eval bits = ((pn : Int) == 9223372036854775809) from hfin.trans (sV_is pn))
      have HRD := Hid.intro_ HE.out.cur.rd
      clear hlf hfin
      go_wp2_with (go_at_call 94; refine HLF.out.mono ?_; rintro e w' ⟨rfl, hw⟩; obtain rfl := hw.symm)
      refine leaves_cons (f := 93) (args := #[.pointer (some ⟨b, 0, none⟩)]) (by simp) (by simp [go_sem]) ?_
      refine (HRD.out.close .returning (by show s4.S.closed = false; rw [G3'.out.closed, HW.out.closed]; exact HP.out.opn) (by show (c.K : Int) ≤ s4.S.hand; rw [G3'.out.hand, HW.out.hand, HP.out.hand]; omega)).mono ?_
      rintro e u' w9 ⟨rfl, rfl, hdn, _⟩
      refine ⟨.tuple #[.bool ((pn : Int) == 9223372036854775809), .int .i64 0], by simp [results, Tryz.results36, go_sem], by rw [HAN.out, HFIN.out], ?_⟩
      exact whole_fin (X := evX c name d w4.heap.size b (fun z => G4 z ∨ z = w4.heap.size) s4 C q4) ⟨rfl, rfl, rfl⟩ HW.out G3'.out S3.out KW.out SC.out rfl hdn _ (by show q4 + j4 + j ≤ _; have := hle4.out; omega)
    | false =>
      obtain ⟨i0', x0, hi0, hx0, _⟩ := HE.out.reach hlf.symm
      have hkm : k < d.m := by
        have hi0 : i0' < d.m - k := hi0
        omega
      have hlen := HP.out.ok.rows.len
      obtain ⟨x, hx⟩ : ∃ x, d.P[d.m - 1 - k]? = some x := ⟨_, List.getElem?_eq_getElem (by omega)⟩
      have hxr : d.P.reverse[k]? = some x := by rw [List.getElem?_reverse (by omega), hlen]; exact hx
      have HNX := Hid.intro_ (HE.out.cur.next hKO.out hxr)
      have hmem := List.mem_of_getElem? hx
      have hin := HP.out.ok.rows.inn hmem
      obtain ⟨hpl1, hpl2, _, _⟩ := sIn_lv hin
      have hlv := node_lv HP.out.ok.rows hmem
      obtain ⟨lv, hlve⟩ : ∃ lv : Nat, sL x.self = (lv : Int) := ⟨(sL x.self).toNat, by omega⟩
      rw [hlve] at hpl1 hlv
      have hlvn : lv < n := by have := HV.out; have := HN.out; omega
      have hlev : ∀ W, Calls Tryz.prog 95 #[.int .u64 x.self] W fun e w' => e = .returned (.int .i64 (lv : Int)) ∧ w' = W := fun W => by
        have := level_any x.self (by omega) W
        rw [hpl1] at this
        exact this
      have HLV := Hid.intro_ hlev
      obtain ⟨bt, hbt⟩ : ∃ bt, bits[lv]? = some bt := ⟨_, List.getElem?_eq_getElem (by have := HNN.out; omega)⟩
      have hne : bits ≠ [] := fun e => by rw [e] at hbt; simp at hbt
      obtain ⟨g, o, hBe, cb0⟩ := bl_at HBR.out hbt (HBS.out hne)
      subst hBe
      have hgo := HBC.out hne _ rfl
      have HSTEP := Hid.intro_ (fun W (hc : CuK (evX c name d w4.heap.size b (fun z => G4 z ∨ z = w4.heap.size) s4 C q4) (k + 1) W) => EvOn.step (n := x) (bits := bits) HP.out.ok HE.out hlf.symm hkm hx hc)
      have hkid := kid_t hlve hbt
      have HKID := Hid.intro_ hkid
      have hl0 : (0 : Int) ≤ (lv : Int) := by omega
      have hl1 : (lv : Int) < (n : Int) := by omega
      obtain ⟨a1, ha1⟩ : ∃ a1, a1 = x.self := ⟨_, rfl⟩
      obtain ⟨a2, ha2⟩ : ∃ a2, a2 = x.low := ⟨_, rfl⟩
      obtain ⟨a3, ha3⟩ : ∃ a3, a3 = x.high := ⟨_, rfl⟩
      rw [← ha1, ← ha2, ← ha3] at HNX
      rw [← ha1] at HSTEP HLV
      rw [← ha2, ← ha3] at HKID
      have HGO := Hid.intro_ hgo
      have HCB := Hid.intro_ cb0
      have HKM := Hid.intro_ hkm
      unfold ndV at HNX
      clear hlf hi0 hx0 hx hxr hmem hin hpl1 hpl2 hlv hlve hlev hbt hne hgo hkid ha1 ha2 ha3 cb0 hlen hkm
      by_cases hq : a1 = pn
      · have HS1 := Hid.intro_ (fun W hc => (HSTEP.out W hc).1 hq)
        have hq1 : ((a1 : Int) == (pn : Int)) = true := by rw [hq]; simp
        clear hq HSTEP
        cases bt with
        | true =>
          go_wp2_with (first
            | (go_at_call 94; refine HLF.out.mono ?_; rintro e w' ⟨rfl, hw⟩; obtain rfl := hw.symm)
            | (go_at_call 85; refine HNX.out.mono ?_; rintro e wn ⟨rfl, hcn, _⟩
               have HCN := Hid.intro_ hcn
               have cb1 := cell_keep HCB.out (hcn.keep) (fun h => h.elim HGO.out (fun h => h.elim))
               have hne1 := World.new_ne wn _ cb1
               have hlt1 := cell_lt cb1
               simp only at hne1 hlt1
               clear hcn)
            | (go_at_call 95; refine (HLV.out _).mono ?_; rintro e w' ⟨rfl, hw⟩; obtain rfl := hw.symm))
          go_roundg (d.m - (k + 1) + 1)
          case measure => have := HGK.out; have := HKM.out; omega
          case rel => exact ⟨k + 1, a3, rfl, rfl, Hid.intro_ (by
            have := HS1.out _ HCN.out
            rw [HKID.out] at this
            simp only [if_true] at this
            exact this.nil ((Keep.refl Nil wn).alloc _))⟩
        | false =>
          go_wp2_with (first
            | (go_at_call 94; refine HLF.out.mono ?_; rintro e w' ⟨rfl, hw⟩; obtain rfl := hw.symm)
            | (go_at_call 85; refine HNX.out.mono ?_; rintro e wn ⟨rfl, hcn, _⟩
               have HCN := Hid.intro_ hcn
               have cb1 := cell_keep HCB.out (hcn.keep) (fun h => h.elim HGO.out (fun h => h.elim))
               have hne1 := World.new_ne wn _ cb1
               have hlt1 := cell_lt cb1
               simp only at hne1 hlt1
               clear hcn)
            | (go_at_call 95; refine (HLV.out _).mono ?_; rintro e w' ⟨rfl, hw⟩; obtain rfl := hw.symm))
          go_roundg (d.m - (k + 1) + 1)
          case measure => have := HGK.out; have := HKM.out; omega
          case rel => exact ⟨k + 1, a2, rfl, rfl, Hid.intro_ (by
            have := HS1.out _ HCN.out
            rw [HKID.out] at this
            simp only [Bool.false_eq_true, if_false] at this
            exact this.nil ((Keep.refl Nil wn).alloc _))⟩
      · have HS1 := Hid.intro_ (fun W hc => (HSTEP.out W hc).2 hq)
        have hq1 : ((a1 : Int) == (pn : Int)) = false := by
          have : ¬ (a1 : Int) = (pn : Int) := by omega
          simpa using this
        clear hq HSTEP
        go_wp2_with (first
          | (go_at_call 94; refine HLF.out.mono ?_; rintro e w' ⟨rfl, hw⟩; obtain rfl := hw.symm)
          | (go_at_call 85; refine HNX.out.mono ?_; rintro e wn ⟨rfl, hcn, _⟩
             have HCN := Hid.intro_ hcn
             clear hcn))
        go_roundg (d.m - (k + 1) + 1)
        case measure => have := HGK.out; have := HKM.out; omega
        case rel => exact ⟨k + 1, pn, rfl, rfl, Hid.intro_ ((HS1.out _ HCN.out).nil ((Keep.refl Nil wn).alloc _))⟩
end
end Go.Proofs.YtadipinnbehhhaaGreatDoor
namespace Go.Proofs.YtadipinnbehhhaaGreatDoor
open Go.ChangeShapes Go.WideShapes Go.ChangeAt Go.WideMaps Go.WideElems Go.RowKit Go.Deep

/-- A list of truths in memory. -/
structure BlAt (w : World) (v : Value) (l : List Bool) : Prop where mk ::
  out : ∃ B c, v = .slice B l.length c ∧ Rd w B (boolsV l) ∧ (l ≠ [] → ∀ a, B = some a → a.spot = none ∧ a.block < w.heap.size) ∧ l.length ≤ 9223372036854775807
/-- Lists of truths in memory. -/
structure LlAt (w : World) (A : Option Addr) (ls : List (List Bool)) : Prop where mk ::
  out : ∃ vs, vs.length = ls.length ∧ Rd w A vs ∧ (ls ≠ [] → ∀ a, A = some a → a.spot = none ∧ a.block < w.heap.size) ∧ ∀ (j : Nat) (l : List Bool), ls[j]? = some l → ∃ v, vs[j]? = some v ∧ BlAt w v l
theorem bools_list {W : World} {a : Addr} : ∀ (len : Nat), (∀ i, i < len → ∃ x : Bool, W.cell? (a.add i) = some (.bool x)) →
    ∃ si : List Bool, si.length = len ∧ ∀ (j : Nat) (u : Value), (boolsV si)[j]? = some u → W.cell? (a.add j) = some u
  | 0, _ => ⟨[], rfl, fun j u hu => by simp [boolsV] at hu⟩
  | len + 1, h => by
    obtain ⟨si, h1, h3⟩ := bools_list len (fun i hi => h i (by omega))
    obtain ⟨x, hx⟩ := h len (by omega)
    refine ⟨si ++ [x], by simp [h1], fun j u hu => ?_⟩
    unfold boolsV at hu h3
    rw [List.map_append] at hu
    by_cases hj : j < si.length
    · rw [List.getElem?_append_left (by simpa using hj)] at hu
      exact h3 j u hu
    · rw [List.getElem?_append_right (by simp; omega)] at hu
      have hl := (List.getElem?_eq_some_iff.1 hu).1
      simp at hl
      obtain rfl : j = len := by omega
      simp [h1] at hu
      rw [hx, hu]
theorem rd_blk {W : World} {A : Option Addr} {xs : List Value} (h : Rd W A xs) (hne : xs ≠ []) : ∀ a, A = some a → a.spot = none ∧ a.block < W.heap.size := rd_in h hne
set_option maxRecDepth 100000 in
theorem bools_of {H : Type} {enc : TypeId × Value → H} {W : World} {cs : List Value} {n : Nat} {x : DataW H × List MemPlace} (h : DataW.trod enc Tryz.prog W 0 (fun _ => true) true n 92 cs = some x) :
    ∃ (v : Value) (l : List Bool), cs = [v] ∧ BlAt W v l := by
  rcases open_slice Tryz.underlying92 h with ⟨e, _⟩ | ⟨a, len, cap, m, n', D, Pl, e, _, hl, hmx, hm, _, hi⟩
  · exact ⟨_, [], e, ⟨none, 0, rfl, Rd.nil _ _, fun h => absurd rfl h, by simp⟩⟩
  · have kc1 : Tryz.prog.cellsOf 4 = 1 := by kernel_rfl
    obtain ⟨si, h1, h3⟩ := bools_list (W := W) (a := a) len (fun i hil => by
      obtain ⟨cs', hc, ht⟩ := hi i (by rw [hm]; simp; omega)
      rw [kc1, Nat.mul_one] at hc
      obtain ⟨_, hcl, hat⟩ := World.cells?_some hc
      obtain ⟨y, hy, _⟩ := DataW.trod_bool Tryz.underlying4 ht
      have := hat 0 (by omega)
      rw [hy] at this
      rw [show (a.add i).add 0 = a.add i by rw [Addr.add_add]; rfl] at this
      exact ⟨y, this⟩)
    have hrd : Rd W (some a) (boolsV si) := fun j u hu => ⟨a, rfl, h3 j u hu⟩
    refine ⟨_, si, e, ⟨some a, cap, by rw [h1], hrd, fun hne => rd_blk hrd (fun e => hne (by unfold boolsV at e; simpa using e)), ?_⟩⟩
    rw [h1]
    unfold maxLen at hmx
    omega
theorem vals_list {W : World} {a : Addr} : ∀ (len : Nat), (∀ i, i < len → ∃ (v : Value) (l : List Bool), W.cell? (a.add i) = some v ∧ BlAt W v l) →
    ∃ (vs : List Value) (ls : List (List Bool)), vs.length = len ∧ ls.length = len ∧ (∀ (j : Nat) (u : Value), vs[j]? = some u → W.cell? (a.add j) = some u) ∧ ∀ (j : Nat) (l : List Bool), ls[j]? = some l → ∃ v, vs[j]? = some v ∧ BlAt W v l
  | 0, _ => ⟨[], [], rfl, rfl, fun j u hu => by simp at hu, fun j u hu => by simp at hu⟩
  | len + 1, h => by
    obtain ⟨vs, ls, h1, h2, h3, h4⟩ := vals_list len (fun i hi => h i (by omega))
    obtain ⟨v, l, hv, hl⟩ := h len (by omega)
    refine ⟨vs ++ [v], ls ++ [l], by simp [h1], by simp [h2], fun j u hu => ?_, fun j u hu => ?_⟩
    · by_cases hj : j < vs.length
      · rw [List.getElem?_append_left hj] at hu
        exact h3 j u hu
      · rw [List.getElem?_append_right (by omega)] at hu
        have hl := (List.getElem?_eq_some_iff.1 hu).1
        simp at hl
        obtain rfl : j = len := by omega
        simp [h1] at hu
        rw [hv, hu]
    · by_cases hj : j < ls.length
      · rw [List.getElem?_append_left hj] at hu
        obtain ⟨v', q1, q2⟩ := h4 j u hu
        exact ⟨v', by rw [List.getElem?_append_left (by omega)]; exact q1, q2⟩
      · rw [List.getElem?_append_right (by omega)] at hu
        have hl2 := (List.getElem?_eq_some_iff.1 hu).1
        simp at hl2
        obtain rfl : j = len := by omega
        simp [h2] at hu
        subst hu
        exact ⟨v, by rw [List.getElem?_append_right (by omega), h1]; simp, hl⟩
set_option maxRecDepth 100000 in
theorem lists_of {H : Type} {enc : TypeId × Value → H} {W : World} {v : Value} {d : DataW H} {p : List MemPlace} {base : Nat} (hv : Value.okWide Tryz.prog W .any base 84 v) (h : DataW.Trod enc Tryz.prog W 0 (fun _ => true) true 84 v d p) :
    ∃ (A : Option Addr) (cap : Nat) (ls : List (List Bool)), v = .slice A ls.length cap ∧ LlAt W A ls ∧ ls.length ≤ 9223372036854775807 := by
  obtain ⟨A, len, cap, rfl⟩ := okWide_slice Tryz.underlying84 hv
  obtain ⟨n, hn⟩ := h
  rcases open_slice Tryz.underlying84 hn with ⟨e, _⟩ | ⟨a, len', cap', m, n', D, Pl, e, _, hl, hmx, hm, _, hi⟩
  · simp only [Value.cells] at e
    injection e with e
    injection e with e1 e2 e3
    subst e1 e2 e3
    exact ⟨none, 0, [], rfl, ⟨[], rfl, Rd.nil _ _, fun h => absurd rfl h, fun j u hu => by simp at hu⟩, by simp⟩
  · simp only [Value.cells] at e
    injection e with e
    injection e with e1 e2 e3
    subst e1 e2 e3
    have kc1 : Tryz.prog.cellsOf 92 = 1 := by kernel_rfl
    obtain ⟨vs, ls, h1, h2, h3, h4⟩ := vals_list (W := W) (a := a) len (fun i hil => by
      obtain ⟨cs', hc, ht⟩ := hi i (by rw [hm]; simp; omega)
      rw [kc1, Nat.mul_one] at hc
      obtain ⟨_, hcl, hat⟩ := World.cells?_some hc
      obtain ⟨y, l, hy, hbl⟩ := bools_of ht
      have := hat 0 (by omega)
      rw [hy] at this
      rw [show (a.add i).add 0 = a.add i by rw [Addr.add_add]; rfl] at this
      exact ⟨y, l, this, hbl⟩)
    have hrd : Rd W (some a) vs := fun j u hu => ⟨a, rfl, h3 j u hu⟩
    refine ⟨some a, cap, ls, by rw [h2], ⟨vs, by omega, hrd, fun hne => rd_blk hrd (fun e => hne (List.eq_nil_of_length_eq_zero (by rw [h2, ← h1, e]; rfl))), h4⟩, ?_⟩
    rw [h2]
    unfold maxLen at hmx
    omega
end Go.Proofs.YtadipinnbehhhaaGreatDoor
namespace Go.Proofs.YtadipinnbehhhaaGreatDoor
open Go.RowKit

/-- A reader's own memory beside a room of blocks F. -/
structure OwnR (c : Cx) (w : World) (b : Nat) (F : Nat → Prop) (v : Value) (x : RdSt) : Prop where
  blk : Blk w b 267 (rdCells c.k x.name x.kind v x.dead x.done x.back x.blocks x.place)
  off : Off c.E F b
  lst : LstAt w (fun y => F y ∨ y = b) c.E v x.list
  kind : 1 ≤ x.kind ∧ x.kind ≤ 255
  len : x.list.length ≤ c.K
  dead : x.dead = 0 ∨ kills x.dead = true
section
variable {c : Cx} {w w' : World} {b b1 b2 : Nat} {F F' G : Nat → Prop} {v v1 v2 : Value} {x x1 x2 : RdSt} {s s' : RSt}
theorem OwnR.at_ (h : OwnR c w b F v x) (hr : RmAt c w F s) : RdrAt c w b (WF F b v) s x := ⟨⟨F, v, rfl, hr, h.blk, h.off, h.lst⟩, h.kind, h.len, h.dead⟩
theorem OwnR.of_ (h : RdrAt c w b G s x) : ∃ F v, G = WF F b v ∧ RmAt c w F s ∧ OwnR c w b F v x := by
  obtain ⟨F, v, e, hr, hb, nb, hl⟩ := h.out
  exact ⟨F, v, e, hr, ⟨hb, nb, hl, h.kind, h.len, h.dead⟩⟩
theorem OwnR.step (h : OwnR c w b F v x) (s : Stp w F w' F') : OwnR c w' b F' v x :=
  ⟨h.blk.keep s.keep h.off.1, h.off.step h.blk.lt s, by
    have hl2 := h.lst.keep s.keep (fun g hg hf => (h.lst.off g hg).1 (.inl hf))
    exact ⟨hl2.form, hl2.lt, fun g hg => (h.lst.off g hg).step (h.lst.lt g hg) (s.part (fun y => y = b)), hl2.oks⟩, h.kind, h.len, h.dead⟩
theorem Off.less {E : Nat → Addr} {g : Nat} (h : Off E F g) (hs : ∀ z, F' z → F z) : Off E F' g := ⟨fun hf => h.1 (hs _ hf), h.2⟩
theorem OwnR.less (h : OwnR c w b F v x) (hs : ∀ z, F' z → F z) : OwnR c w b F' v x :=
  ⟨h.blk, h.off.less hs, ⟨h.lst.form, h.lst.lt, fun g hg => (h.lst.off g hg).less (fun z hz => hz.elim (fun h => .inl (hs z h)) .inr), h.lst.oks⟩, h.kind, h.len, h.dead⟩
/-- Wider by what is not its own. -/
theorem OwnR.wide (h : OwnR c w b F v x) (hs : ∀ z, F' z → F z ∨ (z ≠ b ∧ ¬ v.ownBlock = some z)) : OwnR c w b F' v x :=
  ⟨h.blk, ⟨fun hf => (hs _ hf).elim h.off.1 (fun h => h.1 rfl), h.off.2⟩, ⟨h.lst.form, h.lst.lt, fun g hg => ⟨fun hf => hf.elim (fun hf => (hs _ hf).elim (fun h2 => (h.lst.off g hg).1 (.inl h2)) (fun h2 => h2.2 hg)) (fun hf => (h.lst.off g hg).1 (.inr hf)), (h.lst.off g hg).2⟩, h.lst.oks⟩, h.kind, h.len, h.dead⟩
/-- Two readers over one room. -/
structure TwoAt (c : Cx) (w : World) (b1 b2 : Nat) (G : Nat → Prop) (s : RSt) (x1 x2 : RdSt) : Prop where mk ::
  out : ∃ G0 v1 v2, G = WF (WF G0 b1 v1) b2 v2 ∧ RmAt c w G0 s ∧ OwnR c w b1 G0 v1 x1 ∧ OwnR c w b2 (WF G0 b1 v1) v2 x2
def TwoTo (c : Cx) (b1 b2 : Nat) (G : Nat → Prop) (s' : RSt) (x1' x2' : RdSt) (w w' : World) : Prop := ∃ G', TwoAt c w' b1 b2 G' s' x1' x2' ∧ Stp w G w' G'
theorem WF.comm (G0 : Nat → Prop) (b1 b2 : Nat) (v1 v2 : Value) : WF (WF G0 b1 v1) b2 v2 = WF (WF G0 b2 v2) b1 v1 := by
  funext z
  refine propext ⟨fun h => ?_, fun h => ?_⟩
  · rcases h with ((((h | h) | h) | h) | h)
    · exact .inl (.inl (.inl (.inl h)))
    · exact .inl (.inr h)
    · exact .inr h
    · exact .inl (.inl (.inl (.inr h)))
    · exact .inl (.inl (.inr h))
  · rcases h with ((((h | h) | h) | h) | h)
    · exact .inl (.inl (.inl (.inl h)))
    · exact .inl (.inr h)
    · exact .inr h
    · exact .inl (.inl (.inl (.inr h)))
    · exact .inl (.inl (.inr h))
/-- The own memory of two readers is two. -/
theorem OwnR.swap (h1 : OwnR c w b1 F v1 x1) (h2 : OwnR c w b2 (WF F b1 v1) v2 x2) : OwnR c w b2 F v2 x2 ∧ OwnR c w b1 (WF F b2 v2) v1 x1 := by
  refine ⟨h2.less (fun z hz => .inl (.inl hz)), h1.wide (fun z hz => ?_)⟩
  rcases hz with (hz | hz) | hz
  · exact .inl hz
  · refine .inr ⟨fun e => ?_, fun e => ?_⟩
    · exact h2.off.1 (.inl (.inr (by rw [← hz]; exact e)))
    · exact h2.off.1 (.inr (by rw [← hz]; exact e))
  · have hn := (h2.lst.off z hz).1
    exact .inr ⟨fun e => hn (.inl (.inl (.inr e))), fun e => hn (.inl (.inr e))⟩
theorem TwoAt.swap (h : TwoAt c w b1 b2 G s x1 x2) : TwoAt c w b2 b1 G s x2 x1 := by
  obtain ⟨G0, v1, v2, rfl, hr, h1, h2⟩ := h.out
  obtain ⟨h3, h4⟩ := h1.swap h2
  exact ⟨G0, v2, v1, WF.comm _ _ _ _ _, hr, h3, h4⟩
/-- The first reader; where it turns the second stays. -/
theorem TwoAt.via1 (h : TwoAt c w b1 b2 G s x1 x2) : ∃ G1, RdrAt c w b1 G1 s x1 ∧ (∀ z, G1 z → G z) ∧ ∀ s' x1' w', RdrTo c b1 G1 s' x1' w w' → TwoTo c b1 b2 G s' x1' x2 w w' := by
  obtain ⟨G0, v1, v2, rfl, hr, h1, h2⟩ := h.out
  refine ⟨_, h1.at_ hr, fun z hz => .inl (.inl hz), fun s' x1' w' t => ?_⟩
  obtain ⟨G1, a1, s1⟩ := t
  obtain ⟨F, v, rfl, hr1, ho⟩ := OwnR.of_ a1
  exact ⟨_, ⟨F, v, v2, rfl, hr1, ho, h2.step s1⟩, (s1.part (fun y => y = b2)).part (fun y => v2.ownBlock = some y)⟩
theorem TwoAt.via2 (h : TwoAt c w b1 b2 G s x1 x2) : ∃ G1, RdrAt c w b2 G1 s x2 ∧ (∀ z, G1 z → G z) ∧ ∀ s' x2' w', RdrTo c b2 G1 s' x2' w w' → TwoTo c b1 b2 G s' x1 x2' w w' := by
  obtain ⟨G1, a1, hs, hv⟩ := h.swap.via1
  refine ⟨G1, a1, hs, fun s' x2' w' t => ?_⟩
  obtain ⟨G2, a2, s2⟩ := hv s' x2' w' t
  exact ⟨G2, a2.swap, s2⟩
/-- A second reader opened. -/
theorem RdrAt.second (h : RdrAt c w b1 G s x1) : ∃ G0, RmAt c w G0 s ∧ (∀ z, G0 z → G z) ∧ ∀ b2 s' x2 w', RdrTo c b2 G0 s' x2 w w' → TwoTo c b1 b2 G s' x1 x2 w w' := by
  obtain ⟨F, v1, rfl, hr, h1⟩ := OwnR.of_ h
  refine ⟨F, hr, fun z hz => .inl (.inl hz), fun b2 s' x2 w' t => ?_⟩
  obtain ⟨G2, a2, s2⟩ := t
  obtain ⟨F2, v2, rfl, hr2, ho2⟩ := OwnR.of_ a2
  have h1' := h1.step s2
  have ho1 : OwnR c w' b1 F2 v1 x1 := h1'.less (fun z hz => .inl (.inl hz))
  obtain ⟨_, h4⟩ := ho2.swap h1'
  refine ⟨WF (WF F2 b1 v1) b2 v2, ⟨F2, v1, v2, rfl, hr2, ho1, h4⟩, ?_⟩
  rw [WF.comm]
  exact (s2.part (fun y => y = b1)).part (fun y => v1.ownBlock = some y)
theorem TwoTo.refl (h : TwoAt c w b1 b2 G s x1 x2) : TwoTo c b1 b2 G s x1 x2 w w := ⟨G, h, Stp.refl _ _⟩
theorem TwoAt.nil (h : TwoAt c w b1 b2 G s x1 x2) (k : Keep Nil w w') : TwoAt c w' b1 b2 G s x1 x2 := by
  obtain ⟨G0, v1, v2, rfl, hr, h1, h2⟩ := h.out
  exact ⟨G0, v1, v2, rfl, hr.nil k, h1.step (Stp.of_nil k _), h2.step (Stp.of_nil k _)⟩
/-- The room of two readers, they left alone. -/
theorem TwoAt.rm (h : TwoAt c w b1 b2 G s x1 x2) : ∃ G0, RmAt c w G0 s ∧ (∀ z, G0 z → G z) := by
  obtain ⟨G0, v1, v2, rfl, hr, h1, h2⟩ := h.out
  exact ⟨G0, hr, fun z hz => .inl (.inl (.inl (.inl hz)))⟩
theorem TwoAt.lt (h : TwoAt c w b1 b2 G s x1 x2) (z : Nat) (hz : G z) : z < w.heap.size := by
  obtain ⟨G0, v1, v2, rfl, hr, h1, h2⟩ := h.out
  rcases hz with (hz | hz) | hz
  · exact (h1.at_ hr).lt z hz
  · rw [hz]; exact h2.blk.lt
  · exact h2.lst.lt z hz
end
end Go.Proofs.YtadipinnbehhhaaGreatDoor
namespace Go.Proofs.YtadipinnbehhhaaGreatDoor
open Go.RowKit

/-- What does not turn of it. -/
structure TX where
  c : Cx
  n1 : ByteArray
  n2 : ByteArray
  L1 : List R4
  L2 : List R4
  b1 : Nat
  b2 : Nat
  G0 : Nat → Prop
  s0 : RSt
  Y : World
  Q : Nat
structure TOk (X : TX) (fs : List (ByteArray × AFile)) : Prop where
  t1 : TapeOn X.c fs X.n1 2 X.L1
  t2 : TapeOn X.c fs X.n2 2 X.L2
  calm : Calm X.s0.D X.c.block fs
structure TwoK (X : TX) (rem1 rem2 : List R4) (w : World) : Prop where mk ::
  out : ∃ G s x1 x2 q1 q2 j, Stp X.Y X.G0 w G ∧ Went j 0 X.s0 s ∧ q1 + q2 + j ≤ X.Q ∧ TwoAt X.c w X.b1 X.b2 G s x1 x2 ∧ RdLive X.c X.n1 2 X.L1 false x1 q1 rem1 ∧ RdLive X.c X.n2 2 X.L2 false x2 q2 rem2
/-- The second is closed. -/
structure OneK (X : TX) (w : World) : Prop where mk ::
  out : ∃ G s x1 q1 j rem1, Stp X.Y X.G0 w G ∧ Went j (-(X.c.K : Int)) X.s0 s ∧ q1 + j ≤ X.Q ∧ RdrAt X.c w X.b1 G s x1 ∧ RdLive X.c X.n1 2 X.L1 false x1 q1 rem1
/-- Both are. -/
structure NoK (X : TX) (w : World) : Prop where mk ::
  out : ∃ G s j, Stp X.Y X.G0 w G ∧ Went j (-(X.c.K : Int) + -(X.c.K : Int)) X.s0 s ∧ j ≤ X.Q ∧ RmAt X.c w G s
section
variable {X : TX} {w w' : World} {fs : List (ByteArray × AFile)} {rem1 rem2 rest : List R4} {r : R4}
theorem TwoK.nil (h : TwoK X rem1 rem2 w) (k : Keep Nil w w') : TwoK X rem1 rem2 w' := by
  obtain ⟨G, s, x1, x2, q1, q2, j, a, b, d, t, v1, v2⟩ := h.out
  exact ⟨G, s, x1, x2, q1, q2, j, a.then_nil k, b, d, t.nil k, v1, v2⟩
theorem TwoK.keep (h : TwoK X rem1 rem2 w) : Keep X.G0 X.Y w := by
  obtain ⟨G, s, x1, x2, q1, q2, j, a, _⟩ := h.out
  exact a.keep
theorem went_read (s : RSt) (j : Nat) : Went j 0 s { s with D := s.D.readsN j } := ⟨rfl, rfl, rfl, by show s.S.hand = _; omega, rfl, rfl, rfl⟩
theorem TwoK.next1 (P : TOk X fs) (h : TwoK X (r :: rest) rem2 w) :
    Calls Tryz.prog 102 #[.pointer (some ⟨X.b1, 0, none⟩)] w fun e w' => e = .returned (.tuple #[r.val, .bool true, .int .i64 0]) ∧ TwoK X rest rem2 w' := by
  obtain ⟨G, s, x1, x2, q1, q2, j, a, b, d, t, v1, v2⟩ := h.out
  obtain ⟨G1, hr, _, via⟩ := t.via1
  refine (next_live hr v1 P.t1 (b.calm P.calm) rfl).mono fun e w1 ⟨he, hq⟩ => ⟨he, ?_⟩
  obtain ⟨j1, q', x', hj1, hq1, hv1, t1⟩ := hq.out
  obtain ⟨G2, h2, s2⟩ := via _ _ _ t1
  exact ⟨G2, _, x', x2, q', q2, j1 + j, a.trans s2, b.trans (went_read s j1), by omega, h2, hv1, v2⟩
theorem TwoK.last1 (h : TwoK X [] rem2 w) :
    Calls Tryz.prog 102 #[.pointer (some ⟨X.b1, 0, none⟩)] w fun e w' => e = .returned (.tuple #[zero4, .bool false, .int .i64 0]) ∧ TwoK X [] rem2 w' := by
  obtain ⟨G, s, x1, x2, q1, q2, j, a, b, d, t, v1, v2⟩ := h.out
  obtain ⟨G1, hr, _, via⟩ := t.via1
  refine (next_end hr v1 rfl).mono fun e w1 ⟨he, t1⟩ => ⟨he, ?_⟩
  obtain ⟨G2, h2, s2⟩ := via _ _ _ t1
  exact ⟨G2, s, x1, x2, q1, q2, j, a.trans s2, b, d, h2, v1, v2⟩
theorem TwoK.close2 (u : FrameMode) (h : TwoK X rem1 rem2 w) (hcl : X.s0.S.closed = false) (hh : (X.c.K : Int) ≤ X.s0.S.hand) :
    CallsD Tryz.prog 93 #[.pointer (some ⟨X.b2, 0, none⟩)] u w fun e u' w' => u' = u ∧ (e = .returned (.int .i64 0) ∧ OneK X w') := by
  obtain ⟨G, s, x1, x2, q1, q2, j, a, b, d, t, v1, v2⟩ := h.out
  obtain ⟨G1, hr, _, via⟩ := t.via2
  have hrc := rclose_d X.c w X.b2 G1 s x2 u hr
  rw [v2.closes] at hrc
  refine hrc.mono fun e u' w1 ⟨hu, he, t1⟩ => ⟨hu, he, ?_⟩
  obtain ⟨G2, h2, s2⟩ := via _ _ _ t1
  obtain ⟨G3, hr3, hs3, _⟩ := h2.via1
  refine ⟨G3, _, x1, q1, 0 + j, rem1, (a.trans s2).less hs3, (b.trans (Went.give s (by rw [b.closed]; exact hcl) (by rw [b.hand]; omega))).of_eq rfl (by omega), by omega, hr3, v1⟩
theorem OneK.close1 (u : FrameMode) (h : OneK X w) (hcl : X.s0.S.closed = false) (hh : (X.c.K : Int) + X.c.K ≤ X.s0.S.hand) :
    CallsD Tryz.prog 93 #[.pointer (some ⟨X.b1, 0, none⟩)] u w fun e u' w' => u' = u ∧ (e = .returned (.int .i64 0) ∧ NoK X w') := by
  obtain ⟨G, s, x1, q1, j, rem, a, b, d, t, v1⟩ := h.out
  have hrc := rclose_d X.c w X.b1 G s x1 u t
  rw [v1.closes] at hrc
  refine hrc.mono fun e u' w1 ⟨hu, he, t1⟩ => ⟨hu, he, ?_⟩
  obtain ⟨G2, hr2, s2⟩ := t1.rm
  exact ⟨G2, _, 0 + j, a.trans s2, (b.trans (Went.give s (by rw [b.closed]; exact hcl) (by rw [b.hand]; omega))), by omega, hr2⟩
end
end Go.Proofs.YtadipinnbehhhaaGreatDoor
