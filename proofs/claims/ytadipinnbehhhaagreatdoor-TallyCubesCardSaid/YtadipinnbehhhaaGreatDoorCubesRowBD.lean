/- TallyCubes: the law's walk over the iterator, two passes. TallyCubes: the law. -/
import Derived.Test.YtadipinnbehhhaaGreatDoorCubesRowBC
import Derived.Test.YtadipinnbehhhaaGreatDoorCubesRowAZ
namespace Go.Proofs.YtadipinnbehhhaaGreatDoor
open Go.RowKit
attribute [local go_sem] Oper.semAt_some

section
variable {c : Cx} {d : Dg} {fs : List (ByteArray × AFile)} {s0 : RSt} {G0 : Nat → Prop} {w : World}
set_option maxRecDepth 100000 in
set_option maxHeartbeats 1000000 in
theorem tcubes_any (k : Nat) (nm : ByteArray) (w : World) : Calls Tryz.prog 119 #[.pointer (some ⟨k, 0, none⟩), .string nm] w fun e w' =>
    e = .returned (.func (.func 177) #[] #[.pointer (some ⟨w.heap.size, 0, none⟩), .pointer (some ⟨w.heap.size + 1, 0, none⟩)]) ∧ Blk w' w.heap.size 33 #[.pointer (some ⟨k, 0, none⟩)] ∧ Blk w' (w.heap.size + 1) 9 #[.string nm] ∧ Keep Nil w w' := by
  go_enter Tryz.func119, Tryz.ntmps119
  go_wp2_with fail
  go_ret
  refine ⟨by simp, ?_, ?_, ((Keep.refl Nil w).alloc _).alloc _⟩
  · exact (Blk.new w _ _).keep ((Keep.refl Nil _).alloc _) (fun h => h)
  · exact Blk.new_at _ _ _ (by simp)
theorem no_defer {ops : Array Oper} (h : ops.all (fun o => match o.op with | .defer _ => false | _ => true) = true) (j : Nat) (o : Oper) (c : Call) (hj : ops[j]? = some o) : o.op ≠ .defer c := fun e => by
  rw [Array.all_eq_true'] at h
  have := h o (Array.mem_of_getElem? hj)
  rw [e] at this
  cases this
structure PsFix (c : Cx) (rb vb sb : Nat) (stop : Nat) (A : Option Addr) (n cap : Nat) (ws : List (List Int)) (w : World) : Prop where
  room : Blk w rb 126 #[.pointer (some ⟨c.d, 0, none⟩), .pointer (some ⟨c.p, 0, none⟩), .pointer (some ⟨c.k, 0, none⟩)]
  want : Blk w vb 112 #[.slice A n cap]
  stop : Blk w sb 3 #[.int .i64 stop]
  rows : Rd w A (strs ws)
  len : n = ws.length
  spot : ∀ a, A = some a → a.spot = none
theorem PsFix.keep {w w' : World} {F : Nat → Prop} {rb vb sb stop n cap : Nat} {A : Option Addr} {ws : List (List Int)} (h : PsFix c rb vb sb stop A n cap ws w) (k : Keep F w w') (h1 : ¬ F rb) (h2 : ¬ F vb) (h3 : ¬ F sb) (h4 : ∀ a, A = some a → ws ≠ [] → ¬ F a.block) : PsFix c rb vb sb stop A n cap ws w' :=
  ⟨h.room.keep k h1, h.want.keep k h2, h.stop.keep k h3, h.rows.keep k (fun a e hn hf => h4 a e (fun e2 => hn (by rw [e2]; rfl)) hf), h.len, h.spot⟩
theorem PsFix.row {w : World} {rb vb sb stop n cap i : Nat} {A : Option Addr} {ws : List (List Int)} {t : List Int} (h : PsFix c rb vb sb stop A n cap ws w) (hi : ws[i]? = some t) : ∃ g o, A = some ⟨g, o, none⟩ ∧ w.cell? ⟨g, o + i, none⟩ = some (strV t) := by
  obtain ⟨⟨g, o, sp⟩, hA, hc⟩ := h.rows i (strV t) (by unfold strs; rw [List.getElem?_map, hi]; rfl)
  obtain rfl : sp = none := h.spot _ hA
  rw [add_at] at hc
  exact ⟨g, o, hA, hc⟩
theorem OSs.parts {w : World} {base : Nat} {v : Value} {l : List (List Int)} (h : OSs w base v l) : ∃ A cap, v = .slice A l.length cap ∧ Rd w A (strs l) ∧ (∀ a, A = some a → a.spot = none) ∧ (∀ a, A = some a → l ≠ [] → base ≤ a.block ∧ a.block < w.heap.size) ∧ l.length ≤ cap := by
  obtain ⟨A, cap, rfl⟩ := own_form h.out
  have h2 := own_le h.out
  refine ⟨A, cap, rfl, own_rd h.out, h2.2, fun a e hl => ?_, h2.1⟩
  subst e
  have h1 : 1 ≤ l.length := by
    cases l with
    | nil => exact absurd rfl hl
    | cons _ _ => simp
  obtain ⟨g, cp, e, _, hb, hc⟩ := own_some h1 h.out
  simp only [Value.slice.injEq, Option.some.injEq] at e
  rw [e.1]
  refine ⟨hb, ?_⟩
  obtain ⟨x, hx⟩ : ∃ x, l[0]? = some x := ⟨_, List.getElem?_eq_getElem h1⟩
  obtain ⟨ad, e2, hcl⟩ := own_rd h.out 0 (strV x) (by unfold strs; rw [List.getElem?_map, hx]; rfl)
  have := cell_lt hcl
  rw [add_block] at this
  injection e2 with e2
  rw [← e2, e.1] at this
  exact this
theorem fn_nil (a b : Nat) (w : World) : (binOp .eql 231 (.func (.func 177) #[] #[.pointer (some ⟨a, 0, none⟩), .pointer (some ⟨b, 0, none⟩)]) .nilFunc).run Tryz.prog w = .ok (.bool false) w := by kernel_rfl
def PsWant (W0 : World) (ws : List (List Int)) (v7 : Value) (wd : World) : Prop :=
  ∃ T A cap, v7 = .pointer (some ⟨T, 0, none⟩) ∧ Keep Nil W0 wd ∧ Blk wd T 112 #[.slice A ws.length cap] ∧ Rd wd A (strs ws) ∧ (∀ a, A = some a → a.spot = none) ∧ W0.heap.size ≤ T ∧ (∀ a, A = some a → ws ≠ [] → W0.heap.size ≤ a.block ∧ a.block < wd.heap.size)
theorem PsWant.of {W0 w3 w4 wd : World} {ws : List (List Int)} {v : Value} {T : Nat} (_k4 : Keep Nil W0 w4) (ho : OSs w4 w3.heap.size v ws) (k3 : Keep Nil W0 w3) (kd : Keep (fun z => z = T) w4 wd) (hd : Keep Nil W0 wd) (hT : W0.heap.size ≤ T) (hT2 : T < w3.heap.size ∨ w4.heap.size ≤ T) (hb : Blk wd T 112 #[v]) : PsWant W0 ws (.pointer (some ⟨T, 0, none⟩)) wd := by
  obtain ⟨A, cap, rfl, h1, h2, h3, h4⟩ := ho.parts
  refine ⟨T, A, cap, rfl, hd, hb, h1.keep kd (fun a e hn e2 => ?_), h2, hT, fun a e hn => ?_⟩
  · have := h3 a e (fun e3 => hn (by rw [e3]; rfl))
    have e2' : a.block = T := e2
    omega
  · have := h3 a e hn
    have a1 := k3.size
    have a2 := kd.size
    omega
def vars2 (T : Array Value) (t : List Int) : Array Value := (((T.setIfInBounds 34 (strV t)).setIfInBounds 35 (.int .i64 0)).setIfInBounds 11 (strV t)).setIfInBounds 12 (.int .i64 0)
theorem range_two {nm : ByteArray} {g : Operand} {assign body : Code} {Q : Exit → Act → World → Prop} {a : Act} {n ib kb fb stop : Nat} (P : AkP c fs nm d s0) (hr : RmAt c w G0 s0)
    (hg : a.eval g = .func (.func 177) #[] #[.pointer (some ⟨kb, 0, none⟩), .pointer (some ⟨fb, 0, none⟩)])
    (hk : Blk w kb 33 #[.pointer (some ⟨c.k, 0, none⟩)]) (hf : Blk w fb 9 #[.string nm]) (hib : Off c.E G0 ib)
    (h0 : Blk w ib 3 #[.int .i64 0])
    (hassign : ∀ (l : Nat) (t : List Int) (W : World) (K : Act → World → Prop), K { tmps := vars2 a.tmps t, defers := [] } W →
      assign.wpIn (Fence.wide.inRound l) n Tryz.prog (Exit.then K (fun _ _ _ => False)) { tmps := (#[34, 35].zip #[strV t, .int .i64 0]).foldl (fun u (p, v) => u.setIfInBounds p v) a.tmps, defers := [] } W)
    (hbody : ∀ (Pj : World → Prop) (l i : Nat) (t : List Int) (W : World), Rnd c G0 w ib l Pj → Pj W → Blk W ib 3 #[.int .i64 (i : Int)] → d.cubes[i]? = some t → i ≤ stop →
      body.wpIn (Fence.wide.inRound l) n Tryz.prog (rndPost Pj ib l i stop W) { tmps := vars2 a.tmps t, defers := [] } W)
    (hdone : ∀ (D : Nat) (W : World), d.cubes.length ≤ stop → RngTo c G0 s0 ib d.cubes.length D w W → Q .normal { a with defers := { target := .collected D, args := #[] } :: a.defers } W)
    (hstop : ∀ (D : Nat) (W : World), stop < d.cubes.length → RngTo c G0 s0 ib stop D w W → Q (.exit 2) { a with defers := { target := .collected D, args := #[] } :: a.defers } W) :
    (Code.rangeFunc g #[34, 35] assign body).wpIn Fence.wide (n + 1) Tryz.prog Q a w :=
  range_cubes P hr hg hk hf hib rfl h0 (fun t => { tmps := vars2 a.tmps t, defers := [] }) hassign hbody hdone hstop
structure LawAt (c : Cx) (d : Dg) (fs : List (ByteArray × AFile)) (G0 : Nat → Prop) (w : World) (N2 rb vb sb kb fb tb stop n cap : Nat) (A : Option Addr) (ws : List (List Int)) (V : World) (G : Nat → Prop) (s : RSt) : Prop where
  rm : RmAt c V G s
  ak : AkP c fs nmF d s
  out : ∀ z, w.heap.size ≤ z → z < N2 → ¬ G z
  old : ∀ z, G z → z < w.heap.size → G0 z
  keep : Keep G0 w V
  fix : PsFix c rb vb sb stop A n cap ws V
  bk : Blk V kb 33 #[.pointer (some ⟨c.k, 0, none⟩)]
  bf : Blk V fb 9 #[.string nmF]
  bt : Blk V tb 4 #[.bool false]
  le : N2 ≤ V.heap.size
  ib : ∀ z, z = rb ∨ z = vb ∨ z = sb ∨ z = kb ∨ z = fb ∨ z = tb → w.heap.size ≤ z ∧ z < N2
  ia : ∀ a, A = some a → ws ≠ [] → w.heap.size ≤ a.block ∧ a.block < N2
theorem LawAt.step {N2 rb vb sb kb fb tb stop n cap : Nat} {A : Option Addr} {ws : List (List Int)} {V V' : World} {G G' F : Nat → Prop} {s s' : RSt} (h : LawAt c d fs G0 w N2 rb vb sb kb fb tb stop n cap A ws V G s) (k : Keep F V V') (hF : ∀ z, F z → G z ∨ N2 ≤ z)
    (hr : RmAt c V' G' s') (ha : AkP c fs nmF d s') (hg : ∀ z, G' z → G z ∨ N2 ≤ z) : LawAt c d fs G0 w N2 rb vb sb kb fb tb stop n cap A ws V' G' s' := by
  have hn : ∀ z, w.heap.size ≤ z → z < N2 → ¬ F z := fun z h1 h2 hf => (hF z hf).elim (h.out z h1 h2) (fun h3 => by omega)
  have hw : w.heap.size ≤ N2 := by
    have := h.ib rb (.inl rfl)
    omega
  have hb := h.ib
  refine ⟨hr, ha, fun z h1 h2 hz => (hg z hz).elim (h.out z h1 h2) (fun h3 => by omega), fun z hz h1 => (hg z hz).elim (fun h2 => h.old z h2 h1) (fun h3 => by omega),
    h.keep.trans k (fun z hz hf => (hF z hf).elim (fun h2 => h.old z h2 hz) (fun h3 => by omega)),
    h.fix.keep k (hn _ (hb rb (by simp)).1 (hb rb (by simp)).2) (hn _ (hb vb (by simp)).1 (hb vb (by simp)).2) (hn _ (hb sb (by simp)).1 (hb sb (by simp)).2) (fun a e hne => hn _ (h.ia a e hne).1 (h.ia a e hne).2),
    h.bk.keep k (hn _ (hb kb (by simp)).1 (hb kb (by simp)).2), h.bf.keep k (hn _ (hb fb (by simp)).1 (hb fb (by simp)).2), h.bt.keep k (hn _ (hb tb (by simp)).1 (hb tb (by simp)).2), Nat.le_trans h.le k.size, hb, h.ia⟩
theorem LawAt.nil {N2 rb vb sb kb fb tb stop n cap : Nat} {A : Option Addr} {ws : List (List Int)} {V V' : World} {G : Nat → Prop} {s : RSt} (h : LawAt c d fs G0 w N2 rb vb sb kb fb tb stop n cap A ws V G s) (k : Keep Nil V V') : LawAt c d fs G0 w N2 rb vb sb kb fb tb stop n cap A ws V' G s :=
  h.step k (fun _ h => h.elim) (h.rm.nil k) h.ak (fun _ h => .inl h)
theorem LawAt.rng {N2 rb vb sb kb fb tb stop n cap i k D : Nat} {A : Option Addr} {ws : List (List Int)} {V V' : World} {G : Nat → Prop} {s : RSt} (h : LawAt c d fs G0 w N2 rb vb sb kb fb tb stop n cap A ws V G s) (t : RngTo c G s i k D V V') (hi : N2 ≤ i) :
    ∃ G' s', LawAt c d fs G0 w N2 rb vb sb kb fb tb stop n cap A ws V' G' s' ∧ ¬ G' D ∧ (∀ z, G' z → G z ∨ V.heap.size ≤ z) := by
  obtain ⟨G', s', j, hw, hr, hD, hg⟩ := t.room
  have hl := h.le
  exact ⟨G', s', h.step t.keep (fun z hz => hz.elim .inl (fun e => .inr (by omega))) hr (h.ak.went hw) (fun z hz => (hg z hz).elim .inl (fun e => .inr (by omega))), hD, hg⟩
theorem LawAt.usd {N2 rb vb sb kb fb tb stop n cap : Nat} {A : Option Addr} {ws : List (List Int)} {V : World} {G : Nat → Prop} {s : RSt} (h : LawAt c d fs G0 w N2 rb vb sb kb fb tb stop n cap A ws V G s) :
    Calls Tryz.prog 64 #[.pointer (some ⟨c.p, 0, none⟩)] V fun e w' => e = .returned (.int .i64 0) ∧ ∃ G', LawAt c d fs G0 w N2 rb vb sb kb fb tb stop n cap A ws w' G' s ∧ Stp V G w' G' := by
  have hu : s.S.hand + s.S.parts = 0 := by rw [h.ak.hand, h.ak.parts]; rfl
  have := used_rm h.rm
  rw [hu] at this
  refine this.mono fun e w' ⟨he, G', hr, st⟩ => ⟨he, G', h.step st.keep (fun z hz => .inl hz) hr h.ak (fun z hz => (st.grow z hz).elim .inl (fun e => .inr (Nat.le_trans h.le e))), st⟩
structure DfAt (V : World) (G : Nat → Prop) (D : Nat) : Prop where
  dfr : V.heap[D]? = some (.deferred (some []))
  out : ¬ G D
theorem DfAt.step {V V' : World} {G G' : Nat → Prop} {D : Nat} (h : DfAt V G D) (st : Stp V G V' G') : DfAt V' G' D :=
  ⟨(st.keep.same _ (lt_of_heap h.dfr) h.out).trans h.dfr, st.off (lt_of_heap h.dfr) h.out⟩
theorem DfAt.nil {V V' : World} {G : Nat → Prop} {D : Nat} (h : DfAt V G D) (k : Keep Nil V V') : DfAt V' G D := h.step (Stp.of_nil k G)
theorem DfAt.rng {V V' : World} {G G' : Nat → Prop} {s : RSt} {D D' i k : Nat} (h : DfAt V G D) (t : RngTo c G s i k D' V V') (hi : ¬ D = i) (hg : ∀ z, G' z → G z ∨ V.heap.size ≤ z) : DfAt V' G' D := by
  have hl := lt_of_heap h.dfr
  exact ⟨(t.keep.same _ hl (fun hz => hz.elim h.out hi)).trans h.dfr, fun hz => (hg _ hz).elim h.out (fun e => by omega)⟩
def markD (D : Nat) : Deferred := { target := .collected D, args := #[] }
theorem leaves_marks {F : Fence} {n : Nat} {P : Program} {fn : Func} {tmps : Array Value} {R : Ending → World → Prop} : ∀ (ds : List Nat) (W : World), (∀ D ∈ ds, W.heap[D]? = some (.deferred (some []))) → ds.Nodup → (∀ W', Keep (fun z => z ∈ ds) W W' → LeavesIn F n P fn tmps R [] .returning W') → LeavesInM F n P fn tmps R (ds.map markD) .returning W
  | [], W, _, _, h3 => h3 W (Keep.refl _ W)
  | D :: ds, W, h1, h2, h3 => by
    have hD := h1 D (List.mem_cons_self ..)
    have kD : Keep (fun z => z = D) W (W.putObj D (.deferred none)) := Keep.put (F := fun z => z = D) (Keep.refl _ W) (fun _ => rfl) _
    rw [List.nodup_cons] at h2
    refine ⟨by simp, .inl ⟨D, _, rfl, run_takeDeferred hD, leaves_marks ds _ (fun D' h' => ?_) h2.2 (fun W' k => h3 W' ?_)⟩⟩
    · have hl := h1 D' (List.mem_cons_of_mem _ h')
      exact (kD.same _ (lt_of_heap hl) (fun e => by have e : D' = D := e; rw [e] at h'; exact h2.1 h')).trans hl
    · exact (kD.mono (fun z _ e => by rw [show z = D from e]; exact List.mem_cons_self ..)).trans k (fun z _ e => List.mem_cons_of_mem _ e)
structure LpAt (c : Cx) (d : Dg) (fs : List (ByteArray × AFile)) (G0 : Nat → Prop) (w : World) (N2 rb vb sb kb fb tb stop n cap : Nat) (A : Option Addr) (ws : List (List Int)) (m k : Nat) (ds : List Nat) (V : World) : Prop where mk ::
  out : ∃ G s, LawAt c d fs G0 w N2 rb vb sb kb fb tb stop n cap A ws V G s ∧ (∀ D ∈ ds, DfAt V G D ∧ N2 ≤ D)
  num : m + k = 3
  le : k ≤ 2
  nd : ds.Nodup
theorem LpAt.go {N2 rb vb sb kb fb tb stop n cap m k i kk D : Nat} {A : Option Addr} {ws : List (List Int)} {V V1 Wa Wc : World} {ds : List Nat} {G Gb Gc : Nat → Prop} {s sb' : RSt} (hd : ∀ D ∈ ds, DfAt V G D ∧ N2 ≤ D) (hn : ds.Nodup) (k1 : Keep Nil V V1) (hi : i = V.heap.size) (hle : N2 ≤ V.heap.size)
    (hr : RngTo c G s i kk D V1 Wa) (hgb : ∀ z, Gb z → G z ∨ V1.heap.size ≤ z) (hDb : ¬ Gb D) (st : Stp Wa Gb Wc Gc) (hl : LawAt c d fs G0 w N2 rb vb sb kb fb tb stop n cap A ws Wc Gc sb') (hm : m + (k + 1) = 3) (hk : k < 2) :
    LpAt c d fs G0 w N2 rb vb sb kb fb tb stop n cap A ws m (k + 1) (D :: ds) Wc := by
  have hlt : ∀ D' ∈ ds, D' < V.heap.size := fun D' h => lt_of_heap (hd D' h).1.dfr
  have h1 := k1.size
  have h2 := hr.ge
  refine ⟨⟨Gc, sb', hl, fun D' h => ?_⟩, hm, by omega, ?_⟩
  · rcases List.mem_cons.1 h with rfl | h
    · exact ⟨DfAt.step ⟨hr.dfr, hDb⟩ st, by omega⟩
    · exact ⟨(((hd D' h).1.nil k1).rng hr (by have := hlt D' h; omega) hgb).step st, (hd D' h).2⟩
  · rw [List.nodup_cons]
    exact ⟨fun h => by have := hlt D h; omega, hn⟩
set_option maxRecDepth 100000 in
set_option maxHeartbeats 16000000 in
theorem passes_true {nn bb mm : Int} {A1 A2 : Value} {stop : Nat} (P : AkP c fs nmF d s0) (hr : RmAt c w G0 s0) (hs : stop < 200)
    (HD : ∀ W, Keep Nil w W → Calls Tryz.prog 118 #[.agg #[.int .i64 nn, A1, A2, .int .i64 bb, .int .i64 mm]] W fun e w' => ∃ A cap, e = .returned (dgV d A cap) ∧ DgAt w' d A ∧ Keep Nil W w') :
    Calls Tryz.prog 53 #[.agg #[.pointer (some ⟨c.d, 0, none⟩), .pointer (some ⟨c.p, 0, none⟩), .pointer (some ⟨c.k, 0, none⟩)], .agg #[.int .i64 nn, A1, A2, .int .i64 bb, .int .i64 mm], .int .i64 stop] w fun e w' => e = .returned (.bool true) ∧ Keep G0 w w' := by
  have hwr : IntKind.i64.wrap ((stop : Int) + 1) = ((stop + 1 : Nat) : Int) := by rw [IntKind.wrap_i64]; omega
  have hwr2 : wrap64 ((stop : Int) + 1) = ((stop + 1 : Nat) : Int) := by unfold wrap64; omega
  have HDX := Hid.intro_ HD
  have HP := Hid.intro_ P
  have HR := Hid.intro_ hr
  have HS := Hid.intro_ hs
  have HCU := Hid.intro_ (fun A cap W (h : DgAt W d A) => rcubes_any P.ok A cap (stop + 1) W (by omega) h)
  clear HD P hr hs
  obtain ⟨W0, hW0⟩ : ∃ W0, W0 = (((w.alloc (.cells #[.pointer (some ⟨c.d, 0, none⟩), .pointer (some ⟨c.p, 0, none⟩), .pointer (some ⟨c.k, 0, none⟩)] 126)).alloc (.cells #[.int .i64 nn, A1, A2, .int .i64 bb, .int .i64 mm] 124)).alloc (.cells #[.int .i64 stop] 3)).alloc (.cells #[.bool false] 4) := ⟨_, rfl⟩
  have k0 : Keep Nil w W0 := by rw [hW0]; exact ((((Keep.refl Nil w).alloc _).alloc _).alloc _).alloc _
  have hs0 : W0.heap.size = w.heap.size + 4 := by rw [hW0]; simp
  have BR : Blk W0 w.heap.size 126 #[.pointer (some ⟨c.d, 0, none⟩), .pointer (some ⟨c.p, 0, none⟩), .pointer (some ⟨c.k, 0, none⟩)] := by
    rw [hW0]
    exact (Blk.new w _ _).keep ((((Keep.refl Nil _).alloc _).alloc _).alloc _) (fun h => h)
  have BC : Blk W0 (w.heap.size + 1) 124 #[.int .i64 nn, A1, A2, .int .i64 bb, .int .i64 mm] := by
    rw [hW0]
    exact (Blk.new_at (w.alloc _) _ _ (by simp)).keep (((Keep.refl Nil _).alloc _).alloc _) (fun h => h)
  have BS : Blk W0 (w.heap.size + 2) 3 #[.int .i64 stop] := by
    rw [hW0]
    exact (Blk.new_at ((w.alloc _).alloc _) _ _ (by simp)).keep ((Keep.refl Nil _).alloc _) (fun h => h)
  have BT : Blk W0 (w.heap.size + 3) 4 #[.bool false] := by
    rw [hW0]
    exact Blk.new_at (((w.alloc _).alloc _).alloc _) _ _ (by simp)
  refine (callsIn_wide (n := 8)).1 ?_
  refine callsIn_of_wp_marks Tryz.func53 rfl trivial ?_ rfl
  refine wpIn_wide.2 ?_
  simp only [Tryz.ntmps53, List.size_toArray, List.length_cons, List.length_nil, Nat.reduceAdd, Nat.reduceSub, Array.replicate_succ, Array.replicate_zero, List.push_toArray, List.append_toArray, List.nil_append, List.cons_append]
  go_upto_region 1 with (fail)
  rw [← hW0]
  clear hW0
  have HDG := Hid.intro_ (show ∀ W, Keep Nil W0 W → Calls Tryz.prog 118 #[.agg #[.int .i64 nn, A1, A2, .int .i64 bb, .int .i64 mm]] W fun e w' => ∃ A cap, e = .returned (dgV d A cap) ∧ DgAt w' d A ∧ Keep Nil W w' from fun W k => HDX.out W (k0.then_ k))
  obtain ⟨ws, hws⟩ : ∃ ws, ws = d.cubes.take (stop + 1) := ⟨_, rfl⟩
  rw [← hws] at HCU
  have HWS := Hid.intro_ hws
  clear HDX hws
  have c0 : W0.cell? ⟨w.heap.size + 1, 0, none⟩ = some (.int .i64 nn) := BC.at_ 0
  have c1 : W0.cell? ⟨w.heap.size + 1, 1, none⟩ = some A1 := BC.at_ 1
  have c2 : W0.cell? ⟨w.heap.size + 1, 2, none⟩ = some A2 := BC.at_ 2
  have c3 : W0.cell? ⟨w.heap.size + 1, 3, none⟩ = some (.int .i64 bb) := BC.at_ 3
  have c4 : W0.cell? ⟨w.heap.size + 1, 4, none⟩ = some (.int .i64 mm) := BC.at_ 4
  have c5 : W0.cell? ⟨w.heap.size + 2, 0, none⟩ = some (.int .i64 stop) := BS.at_ 0
  have HBR := Hid.intro_ BR
  have HBS := Hid.intro_ BS
  have HBT := Hid.intro_ BT
  have HBC := Hid.intro_ BC
  have HK0 := Hid.intro_ k0
  have HS0 := Hid.intro_ hs0
  clear BR BS BT BC k0 hs0
  go_cut [7] from 13 to 17 (fun v7 wd => PsWant W0 ws v7 wd)
  case first =>
    have hSk : Hid (∀ w', Keep Nil W0 w' → (w'.cell? ⟨w.heap.size + 1, 0, none⟩ = some (.int .i64 nn) ∧ w'.cell? ⟨w.heap.size + 1, 1, none⟩ = some A1 ∧ w'.cell? ⟨w.heap.size + 1, 2, none⟩ = some A2 ∧ w'.cell? ⟨w.heap.size + 1, 3, none⟩ = some (.int .i64 bb) ∧ w'.cell? ⟨w.heap.size + 1, 4, none⟩ = some (.int .i64 mm) ∧ w'.cell? ⟨w.heap.size + 2, 0, none⟩ = some (.int .i64 stop))) := Hid.intro_ (fun w' k =>
      ⟨cell_keep c0 k (fun h => h), cell_keep c1 k (fun h => h), cell_keep c2 k (fun h => h), cell_keep c3 k (fun h => h), cell_keep c4 k (fun h => h), cell_keep c5 k (fun h => h)⟩)
    go_region_held3 (fun w' => w'.cell? ⟨w.heap.size + 1, 0, none⟩ = some (.int .i64 nn) ∧ w'.cell? ⟨w.heap.size + 1, 1, none⟩ = some A1 ∧ w'.cell? ⟨w.heap.size + 1, 2, none⟩ = some A2 ∧ w'.cell? ⟨w.heap.size + 1, 3, none⟩ = some (.int .i64 bb) ∧ w'.cell? ⟨w.heap.size + 1, 4, none⟩ = some (.int .i64 mm) ∧ w'.cell? ⟨w.heap.size + 2, 0, none⟩ = some (.int .i64 stop))
      (first | exact ⟨c0, c1, c2, c3, c4, c5⟩ | exact hSk.out _ ((Keep.refl Nil W0).alloc _) | exact hSk.out _ ((Keep.refl Nil W0).alloc _).drew | exact hSk.out _ ((Keep.refl Nil W0).drew.alloc _) | exact hSk.out _ KZ.out | exact hSk.out _ (KZ.out.alloc _) | exact hSk.out _ KZ4.out | exact hSk.out _ (KZ4.out.alloc _) | exact hSk.out _ (KZ4.out.setCell (p := ⟨W0.heap.size, 0, none⟩) (fun h => absurd h (Nat.lt_irrefl _)) _) | exact hSk.out _ (KZ4.out.setCell (p := ⟨w3.heap.size, 0, none⟩) (fun h => absurd h (Nat.not_lt_of_le KZ.out.size)) _) | exact hSk.out _ ((KZ4.out.alloc _).setCell (p := ⟨w4.heap.size, 0, none⟩) (fun h => absurd h (Nat.not_lt_of_le KZ4.out.size)) _))
      (first
        | (go_at_call 118; refine (HDG.out _ (Keep.refl Nil W0).drew).mono ?_; rintro e w3 ⟨A3, q3, rfl, hdg, k3⟩
           have KZ := Hid.intro_ ((Keep.refl Nil W0).drew.then_ k3)
           have HDA := Hid.intro_ hdg
           clear k3 hdg)
        | (go_at_call 118; refine (HDG.out _ ((Keep.refl Nil W0).alloc (.cells #[.slice none 0 0] 112)).drew).mono ?_; rintro e w3 ⟨A3, q3, rfl, hdg, k3⟩
           have KZ := Hid.intro_ (((Keep.refl Nil W0).alloc (.cells #[.slice none 0 0] 112)).drew.then_ k3)
           have BZ := Hid.intro_ ((Blk.new W0 112 #[.slice none 0 0]).drew.keep k3 (fun h => h))
           have HDA := Hid.intro_ hdg
           clear k3 hdg)
        | (go_at_call 117; refine (HCU.out A3 q3 w3 HDA.out).mono ?_; rintro e w4 ⟨v4, rfl, hos, k4⟩; obtain ⟨A4, q4, hv4⟩ := own_form hos.out; subst hv4
           have KZ4 := Hid.intro_ (KZ.out.then_ k4)
           have HO4 := Hid.intro_ hos
           (try have BZ4 := Hid.intro_ (BZ.out.keep k4 (fun h => h)))
           (try have bz0 : w4.cell? ⟨W0.heap.size, 0, none⟩ = some (.slice none 0 0) := BZ4.out.at_ 0)
           (try have bzf := BZ4.out.fr 0)
           clear k4 hos)
        | (go_at_call 117; refine (HCU.out A3 q3 (w3.alloc (.cells #[.slice none 0 0] 112)) (HDA.out.nil ((Keep.refl Nil w3).alloc _))).mono ?_; rintro e w4 ⟨v4, rfl, hos, k4⟩; obtain ⟨A4, q4, hv4⟩ := own_form hos.out; subst hv4
           have KZ4 := Hid.intro_ ((KZ.out.alloc _).then_ k4)
           have HO4 := Hid.intro_ hos
           have BZ4 := Hid.intro_ ((Blk.new w3 112 #[.slice none 0 0]).keep k4 (fun h => h))
           have bz0 : w4.cell? ⟨w3.heap.size, 0, none⟩ = some (.slice none 0 0) := BZ4.out.at_ 0
           have bzf := BZ4.out.fr 0
           clear k4 hos))
    all_goals
      go_wp2_with fail
      go_meet
      first
        | exact PsWant.of (w3 := w3) KZ4.out HO4.out KZ.out ((Keep.refl _ w4).alloc _) (KZ4.out.alloc _) KZ4.out.size (.inr (Nat.le_refl _)) (Blk.new w4 _ _)
        | exact PsWant.of (w3 := w3) KZ4.out HO4.out KZ.out ((Keep.refl (fun z => z = W0.heap.size) w4).setCell (p := ⟨W0.heap.size, 0, none⟩) (fun _ => rfl) _) (KZ4.out.setCell (p := ⟨W0.heap.size, 0, none⟩) (fun h => absurd h (Nat.lt_irrefl _)) _) (Nat.le_refl _) (.inl BZ.out.lt) (BZ4.out.set_ 0 _)
        | exact PsWant.of (w3 := w3.alloc (.cells #[.slice none 0 0] 112)) KZ4.out HO4.out (KZ.out.alloc _) ((Keep.refl (fun z => z = w3.heap.size) w4).setCell (p := ⟨w3.heap.size, 0, none⟩) (fun _ => rfl) _) (KZ4.out.setCell (p := ⟨w3.heap.size, 0, none⟩) (fun h => absurd h (Nat.not_lt_of_le KZ.out.size)) _) KZ.out.size (.inl (by simp)) (BZ4.out.set_ 0 _)
  obtain ⟨T, A, cap, rfl, kT, bT, hrd, hsp, hT, hAb⟩ := hcut
  have hfix : PsFix c w.heap.size T (w.heap.size + 2) stop A ws.length cap ws wc := ⟨HBR.out.keep kT (fun h => h), bT, HBS.out.keep kT (fun h => h), hrd, rfl, hsp⟩
  have hkw : Keep Nil w wc := HK0.out.then_ kT
  have r1 : wc.cell? ⟨w.heap.size, 1, none⟩ = some (.pointer (some ⟨c.p, 0, none⟩)) := hfix.room.at_ 1
  have r2 : wc.cell? ⟨w.heap.size, 2, none⟩ = some (.pointer (some ⟨c.k, 0, none⟩)) := hfix.room.at_ 2
  have HTC := Hid.intro_ (tcubes_any c.k nmF wc)
  have hbt := HBT.out.keep kT (fun h => h)
  have HF := Hid.intro_ hfix
  have HK := Hid.intro_ hkw
  have HBT2 := Hid.intro_ hbt
  have HKT := Hid.intro_ kT
  have HTG := Hid.intro_ hT
  have HTB := Hid.intro_ bT.lt
  have HAB := Hid.intro_ hAb
  clear hfix hkw hbt kT bT hrd hsp hT hAb c0 c1 c2 c3 c4 c5 HCU HDG HBT HBC
  unfold nmF at HTC
  go_wp2_with fail
  refine HTC.out.mono ?_
  rintro e w2 ⟨rfl, bk, bf, k2⟩
  have hfix := HF.out.keep k2 (fun h => h) (fun h => h) (fun h => h) (fun _ _ _ h => h)
  have hkw := HK.out.then_ k2
  have hrm := HR.out.nil hkw
  have hbt := HBT2.out.keep k2 (fun h => h)
  have r1 : w2.cell? ⟨w.heap.size, 1, none⟩ = some (.pointer (some ⟨c.p, 0, none⟩)) := hfix.room.at_ 1
  have HU := Hid.intro_ (used_rm hrm)
  have HBK := Hid.intro_ bk
  have HBF := Hid.intro_ bf
  have HFX := Hid.intro_ hfix
  have HKW := Hid.intro_ hkw
  have HRM := Hid.intro_ hrm
  have HBT3 := Hid.intro_ hbt
  have HK2 := Hid.intro_ k2
  clear bk bf hfix hkw hrm hbt k2 HF HK HBT2 HTC HK0
  have hu0 : s0.S.hand + s0.S.parts = 0 := by rw [HP.out.hand, HP.out.parts]; rfl
  rw [hu0] at HU
  clear hu0
  have hfn := fn_nil wc.heap.size (wc.heap.size + 1) w2
  go_wp2_with fail
  refine HU.out.mono ?_
  rintro e w3 ⟨rfl, ht⟩
  have HT := Hid.intro_ ht
  obtain ⟨G1, hr1, st1⟩ := ht
  have hw2 : w.heap.size + 4 ≤ W0.heap.size := by have := HS0.out; omega
  have hwc := HKT.out.size
  have hw2s : wc.heap.size + 2 ≤ w2.heap.size := by have := HBF.out.lt; omega
  have hTl : T < wc.heap.size := HTB.out
  have hG1 : ∀ z, G0 z → z < w.heap.size := HR.out.lt
  have H1 : LawAt c d fs G0 w w2.heap.size w.heap.size T (w.heap.size + 2) wc.heap.size (wc.heap.size + 1) (w.heap.size + 3) stop ws.length cap A ws w3 G1 s0 := by
    refine LawAt.step (V := w2) (G := G0) ⟨HRM.out, HP.out, fun z h1 h2 hz => by have := hG1 z hz; omega, fun z hz _ => hz, HKW.out.mono (fun _ _ h => h.elim), HFX.out, HBK.out, HBF.out, HBT3.out, Nat.le_refl _, fun z hz => ?_, fun a e hne => ?_⟩ st1.keep (fun z hz => .inl hz) hr1 HP.out st1.grow
    · have := HTG.out
      rcases hz with rfl | rfl | rfl | rfl | rfl | rfl <;> omega
    · have := HAB.out a e hne
      omega
  have HL := Hid.intro_ H1
  clear HU r1 r2 hfn hr1 st1 hw2 hwc hw2s hTl hG1 H1 HRM HKW HFX HBK HBF HBT3 HAB HTG HKT HBR HBS HS0
  go_wp2_with fail
  refine wp_loop_ghost_k (fun m a V => ∃ (u10 u11 u12 u13 u14 u15 u16 u17 u18 u19 u20 u21 u22 u23 u24 u25 u26 u27 u28 u29 u30 u31 u32 u33 u34 u35 u36 u37 u38 u39 u40 u41 u42 u43 u44 u45 u46 u47 u48 u49 u50 u51 u52 u53 u54 u55 u56 u57 u58 u59 u60 u61 u62 u63 u64 u65 u66 u67 u68 u69 u70 u71 u72 u73 u74 u75 u76 u77 u78 u79 u80 : Value) (k : Nat) (ds : List Nat), a = { tmps := #[.agg #[.pointer (some ⟨c.d, 0, none⟩), .pointer (some ⟨c.p, 0, none⟩), .pointer (some ⟨c.k, 0, none⟩)], .agg #[.int .i64 nn, A1, A2, .int .i64 bb, .int .i64 mm], .int .i64 stop, .pointer (some ⟨w.heap.size, 0, none⟩), .pointer (some ⟨w.heap.size + 1, 0, none⟩), .pointer (some ⟨w.heap.size + 1 + 1, 0, none⟩), .pointer (some ⟨w.heap.size + 1 + 1 + 1, 0, none⟩), .pointer (some ⟨T, 0, none⟩), .func (.func 177) #[] #[.pointer (some ⟨wc.heap.size, 0, none⟩), .pointer (some ⟨wc.heap.size + 1, 0, none⟩)], .int .i64 k, u10, u11, u12, u13, u14, u15, u16, u17, u18, u19, u20, u21, u22, u23, u24, u25, u26, u27, u28, u29, u30, u31, u32, u33, u34, u35, u36, u37, u38, u39, u40, u41, u42, u43, u44, u45, u46, u47, u48, u49, u50, u51, u52, u53, u54, u55, u56, u57, u58, u59, u60, u61, u62, u63, u64, u65, u66, u67, u68, u69, u70, u71, u72, u73, u74, u75, u76, u77, u78, u79, u80], defers := ds.map markD } ∧ LpAt c d fs G0 w w2.heap.size w.heap.size T (w.heap.size + 2) wc.heap.size (wc.heap.size + 1) (w.heap.size + 3) stop ws.length cap A ws m k ds V) 3 ?_ ?_
  · exact ⟨_, _, _, _, _, _, _, _, _, _, _, _, _, _, _, _, _, _, _, _, _, _, _, _, _, _, _, _, _, _, _, _, _, _, _, _, _, _, _, _, _, _, _, _, _, _, _, _, _, _, _, _, _, _, _, _, _, _, _, _, _, _, _, _, _, _, _, _, _, _, _, 0, [], rfl, ⟨⟨G1, s0, HL.out, fun D h => by cases h⟩, rfl, by omega, List.nodup_nil⟩⟩
  rintro m a V ⟨u10, u11, u12, u13, u14, u15, u16, u17, u18, u19, u20, u21, u22, u23, u24, u25, u26, u27, u28, u29, u30, u31, u32, u33, u34, u35, u36, u37, u38, u39, u40, u41, u42, u43, u44, u45, u46, u47, u48, u49, u50, u51, u52, u53, u54, u55, u56, u57, u58, u59, u60, u61, u62, u63, u64, u65, u66, u67, u68, u69, u70, u71, u72, u73, u74, u75, u76, u77, u78, u79, u80, k, ds, rfl, hlp⟩ J K hJ hK
  obtain ⟨G, s, hl0, hds⟩ := hlp.out
  have HL := Hid.intro_ hl0
  have HDS := Hid.intro_ hds
  have HLP := Hid.intro_ hlp
  by_cases hk2 : k < 2
  · have hki : (k : Int) < 2 := by omega
    have hkw : wrap64 ((k : Int) + 1) = ((k + 1 : Nat) : Int) := by unfold wrap64; omega
    have hkw2 : IntKind.i64.wrap ((k : Int) + 1) = ((k + 1 : Nat) : Int) := by rw [IntKind.wrap_i64]; omega
    have HK2 := Hid.intro_ hk2
    clear hl0 hds hlp hk2
    go_wp2_with fail
    clear hki
    obtain ⟨V1, hV1⟩ : ∃ V1, V1 = V.alloc (.cells #[.int .i64 0] 3) := ⟨_, rfl⟩
    obtain ⟨ib1, hib1⟩ : ∃ ib1, ib1 = V.heap.size := ⟨_, rfl⟩
    rw [← hV1, ← hib1]
    have hb1 : Blk V1 ib1 3 #[.int .i64 0] := by rw [hV1, hib1]; exact Blk.new V _ _
    have hl1 := HL.out.nil (V' := V1) (by rw [hV1]; exact (Keep.refl Nil V).alloc _)
    have hof1 : Off c.E G ib1 := by rw [hib1]; exact Off.new HL.out.rm.env HL.out.rm.lt (Nat.le_refl _)
    have hNi1 : w2.heap.size ≤ ib1 := by rw [hib1]; exact HL.out.le
    have HL1 := Hid.intro_ hl1
    have HNI1 := Hid.intro_ hNi1
    have HKV := Hid.intro_ (show Keep Nil V V1 from by rw [hV1]; exact (Keep.refl Nil V).alloc _)
    have HIX := Hid.intro_ hib1
    have HLE2 := Hid.intro_ (show w2.heap.size ≤ V.heap.size from HL.out.le)
    clear hV1 hib1 hNi1
    refine (wpIn_wide (n := 8)).1 ?_
    refine range_two (n := 7) (stop := stop) hl1.ak hl1.rm rfl hl1.bk hl1.bf hof1 hb1 ?assign ?body ?done ?stop
    case assign =>
      intro l t W K hK
      unfold vars2 at hK
      simp only [List.setIfInBounds_toArray, List.set_cons_zero, List.set_cons_succ] at hK
      clear HL1 HNI1 hl1 hof1 hb1 HL HWS HS HP HR HDS HLP HKV HIX HLE2 HK2 hJ hkw hkw2
      gi_wp2
      exact hK
    case body =>
      intro Pj l i t W hR hP hb hi hle
      have hwi : ws[i]? = some t := by rw [HWS.out, List.getElem?_take, if_pos (by omega)]; exact hi
      have hfx : ∀ w', Pj w' → PsFix c w.heap.size T (w.heap.size + 2) stop A ws.length cap ws w' := fun w' h => by
        have hn : ∀ z, w.heap.size ≤ z → z < w2.heap.size → ¬ (G z ∨ z = ib1) := fun z h1 h2 hz => hz.elim (hl1.out z h1 h2) (fun e => by have := HNI1.out; omega)
        have hq := hl1.ib
        exact hl1.fix.keep (hR.keep w' h) (hn _ (hq _ (by simp)).1 (hq _ (by simp)).2) (hn _ (hq _ (by simp)).1 (hq _ (by simp)).2) (hn _ (hq _ (by simp)).1 (hq _ (by simp)).2) (fun a e hne => hn _ (hl1.ia a e hne).1 (hl1.ia a e hne).2)
      obtain ⟨g, o, hA, hc⟩ := (hfx W hP).row hwi
      have hin : i < ws.length := (List.getElem?_eq_some_iff.1 hwi).1
      clear hl1 HL1 HL HDS HLP HKV HIX HLE2 HK2 hJ hK hkw hkw2
      subst hA
      have hSP : ∀ w', Pj w' → Blk w' ib1 3 #[.int .i64 (i : Int)] → (w'.cell? ⟨ib1, 0, none⟩ = some (.int .i64 i) ∧ w'.cell? ⟨T, 0, none⟩ = some (.slice (some ⟨g, o, none⟩) ws.length cap) ∧ w'.cell? ⟨g, o + i, none⟩ = some (.string ⟨(toB t).toArray⟩) ∧ w'.cell? ⟨w.heap.size, 1, none⟩ = some (.pointer (some ⟨c.p, 0, none⟩)) ∧ w'.cell? ⟨w.heap.size, 2, none⟩ = some (.pointer (some ⟨c.k, 0, none⟩))) := fun w' h hb' => by
        have f := hfx w' h
        obtain ⟨g', o', e, hc'⟩ := f.row hwi
        simp only [Option.some.injEq, Addr.mk.injEq] at e
        obtain ⟨rfl, rfl, _⟩ := e
        exact ⟨hb'.at_ 0, f.want.at_ 0, hc', f.room.at_ 1, f.room.at_ 2⟩
      have hsb : ∀ w', Pj w' → w'.cell? ⟨w.heap.size + 2, 0, none⟩ = some (.int .i64 stop) := fun w' h => (hfx w' h).stop.at_ 0
      have hPd : Pj W.drew := hR.turn _ _ hP (Keep.refl _ W).drew
      obtain ⟨n, hn⟩ : ∃ n, n = ws.length := ⟨_, rfl⟩
      rw [← hn] at hSP hin
      have hq1 : decide ((n : Int) ≤ (i : Int)) = false := decide_eq_false (by omega)
      have hq2 : ((i : Int) < (n : Int)) := by omega
      have hq4 : decide (n ≤ i) = false := decide_eq_false (by omega)
      have hq3 : (0 : Int) ≤ (i : Int) := by omega
      have hil : ¬ ib1 = l := by have := hR.ge; have := hb1.lt; omega
      have hw1 : wrap64 ((i : Int) + 1) = ((i + 1 : Nat) : Int) := by unfold wrap64; have := HS.out; omega
      have hV : IntKind.i64.wrap ((i : Int) + 1) = ((i + 1 : Nat) : Int) := by rw [IntKind.wrap_i64]; have := HS.out; omega
      have hS0 := hSP _ hPd (hb.keep (Keep.refl Nil W).drew (fun h => h))
      have HSP := Hid.intro_ hSP
      have HSB := Hid.intro_ hsb
      have HRN := Hid.intro_ hR
      have HBW := Hid.intro_ hb
      have HLE := Hid.intro_ hle
      have HUS := Hid.intro_ (hR.used _ hPd)
      unfold vars2 strV
      have HN := Hid.intro_ hn
      clear hSP hsb hR hb hle hfx hwi hi hP hPd hb1 hof1 hn
      simp only [List.setIfInBounds_toArray, List.set_cons_zero, List.set_cons_succ]
      gi_wp2
      refine region_inRound (S := (fun w' => w'.cell? ⟨ib1, 0, none⟩ = some (.int .i64 i) ∧ w'.cell? ⟨T, 0, none⟩ = some (.slice (some ⟨g, o, none⟩) n cap) ∧ w'.cell? ⟨g, o + i, none⟩ = some (.string ⟨(toB t).toArray⟩) ∧ w'.cell? ⟨w.heap.size, 1, none⟩ = some (.pointer (some ⟨c.p, 0, none⟩)) ∧ w'.cell? ⟨w.heap.size, 2, none⟩ = some (.pointer (some ⟨c.k, 0, none⟩)))) (by kernel_rfl) (no_defer (by kernel_rfl)) (by rintro ⟨_, _, h⟩; exact h) ?_
      have hHeld := hS0
      change wpAnyH _ _ _ _ _ _ _ _ W.drew
      refine tk8 (i := 0) (v := ?_) (Or.inl ⟨by kernel_rfl, ?_⟩) ?_; rotate_left; (intro w k; (try dsimp only at k); go_simp; try with_reducible rfl); (try simp only [Act.put, put9]); refine tk8 (i := 1) (v := ?_) (Or.inl ⟨by kernel_rfl, ?_⟩) ?_; rotate_left; (intro w k; (try dsimp only at k); go_simp; try with_reducible rfl); (try simp only [Act.put, put9]); refine tk8 (i := 2) (v := ?_) (Or.inl ⟨by kernel_rfl, ?_⟩) ?_; rotate_left; (intro w k; (try dsimp only at k); go_simp; try with_reducible rfl); (try simp only [Act.put, put9]); refine tk8 (i := 3) (v := ?_) (Or.inl ⟨by kernel_rfl, ?_⟩) ?_; rotate_left; (intro w k; (try dsimp only at k); go_simp; try with_reducible rfl); (try simp only [Act.put, put9]); refine tk8 (i := 4) (v := ?_) (Or.inl ⟨by kernel_rfl, ?_⟩) ?_; rotate_left; (intro w k; (try dsimp only at k); go_simp; try with_reducible rfl); (try simp only [Act.put, put9]); refine tk8 (i := 5) (v := ?_) (Or.inl ⟨by kernel_rfl, ?_⟩) ?_; rotate_left; (intro w k; (try dsimp only at k); go_simp; try with_reducible rfl); (try simp only [Act.put, put9]); refine tk8 (i := 6) (v := ?_) (Or.inl ⟨by kernel_rfl, ?_⟩) ?_; rotate_left; (intro w k; (try dsimp only at k); go_simp; try with_reducible rfl); (try simp only [Act.put, put9]); refine tk8 (i := 7) (v := ?_) (Or.inl ⟨by kernel_rfl, ?_⟩) ?_; rotate_left; (intro w k; (try dsimp only at k); go_simp; try with_reducible rfl); (try simp only [Act.put, put9]); refine tk8 (i := 8) (v := ?_) (Or.inl ⟨by kernel_rfl, ?_⟩) ?_; rotate_left; (intro w k; (try dsimp only at k); go_simp; try with_reducible rfl); (try simp only [Act.put, put9]); refine tk8 (i := 9) (v := ?_) (Or.inl ⟨by kernel_rfl, ?_⟩) ?_; rotate_left; (intro w k; (try dsimp only at k); go_simp; try with_reducible rfl); (try simp only [Act.put, put9]); refine tk8 (i := 10) (v := ?_) (Or.inl ⟨by kernel_rfl, ?_⟩) ?_; rotate_left; (intro w k; (try dsimp only at k); go_simp; try with_reducible rfl); (try simp only [Act.put, put9]); refine tk8 (i := 11) (v := ?_) (Or.inl ⟨by kernel_rfl, ?_⟩) ?_; rotate_left; (intro w k; (try dsimp only at k); go_simp; try with_reducible rfl); (try simp only [Act.put, put9]); refine tk8 (i := 12) (v := ?_) (Or.inl ⟨by kernel_rfl, ?_⟩) ?_; rotate_left; (intro w k; (try dsimp only at k); go_simp; try with_reducible rfl); (try simp only [Act.put, put9]); refine tk8 (i := 13) (v := ?_) (Or.inl ⟨by kernel_rfl, ?_⟩) ?_; rotate_left; (intro w k; (try dsimp only at k); go_simp; try with_reducible rfl); (try simp only [Act.put, put9]); refine tk8 (i := 14) (v := ?_) (Or.inl ⟨by kernel_rfl, ?_⟩) ?_; rotate_left; (intro w k; (try dsimp only at k); go_simp; try with_reducible rfl); (try simp only [Act.put, put9]); refine tk8 (i := 15) (v := ?_) (Or.inl ⟨by kernel_rfl, ?_⟩) ?_; rotate_left; (intro w k; (try dsimp only at k); go_simp; try with_reducible rfl); (try simp only [Act.put, put9]); refine tk8 (i := 16) (v := ?_) (Or.inl ⟨by kernel_rfl, ?_⟩) ?_; rotate_left; (intro w k; (try dsimp only at k); go_simp; try with_reducible rfl); (try simp only [Act.put, put9]); refine tk8 (i := 17) (v := ?_) (Or.inl ⟨by kernel_rfl, ?_⟩) ?_; rotate_left; (intro w k; (try dsimp only at k); go_simp; try with_reducible rfl); (try simp only [Act.put, put9]); refine tk8 (i := 18) (v := ?_) (Or.inl ⟨by kernel_rfl, ?_⟩) ?_; rotate_left; (intro w k; (try dsimp only at k); go_simp; try with_reducible rfl); (try simp only [Act.put, put9]); refine tk8 (i := 20) (v := ?_) (Or.inl ⟨by kernel_rfl, ?_⟩) ?_; rotate_left; (intro w k; (try dsimp only at k); go_simp; try with_reducible rfl); (try simp only [Act.put, put9]); refine tk8 (i := 21) (v := ?_) (Or.inl ⟨by kernel_rfl, ?_⟩) ?_; rotate_left; (intro w k; (try dsimp only at k); go_simp; try with_reducible rfl); try simp only [Act.put, put9]
      refine wpAnyH_ready (rs := [19]) (by kernel_rfl) (by simp) ?_
      refine AllReadyH.cons (by simp only [get9]; rfl) (fun K hK => ?_) AllReadyH.nil
      go_simp
      go_at_call 64
      refine HUS.out.mono ?_
      rintro e w5 ⟨rfl, hp5, k5⟩
      have hb5 : Blk w5 ib1 3 #[.int .i64 (i : Int)] := (HBW.out.keep (Keep.refl Nil W).drew (fun h => h)).keep k5 (fun h => h (.inl rfl))
      have hS5 := HSP.out _ hp5 hb5
      have HKK := Hid.intro_ (HRN.out.kk _ hp5)
      have HP5 := Hid.intro_ hp5
      have HB5 := Hid.intro_ hb5
      have HK5 := Hid.intro_ k5
      clear hp5 hb5 k5
      refine hK.out _ _ ?_ (fun hHeld => ?_)
      · exact hS5
      clear hK K
      try simp only [Act.put, put9]
      refine wpAnyH_ready (rs := [22]) (by kernel_rfl) (by simp) ?_
      refine AllReadyH.cons (by simp only [get9]; rfl) (fun K hK => ?_) AllReadyH.nil
      go_simp
      go_at_call 61
      refine HKK.out.mono ?_
      rintro e w6 ⟨rfl, rfl⟩
      refine hK.out _ _ ?_ (fun hHeld => ?_)
      · exact hHeld
      clear hK K
      (try simp only [Act.put, put9]); refine tk8 (i := 23) (v := ?_) (Or.inl ⟨by kernel_rfl, ?_⟩) ?_; rotate_left; (intro w k; (try dsimp only at k); go_simp; try with_reducible rfl); (try simp only [Act.put, put9]); refine tk8 (i := 24) (v := ?_) (Or.inl ⟨by kernel_rfl, ?_⟩) ?_; rotate_left; (intro w k; (try dsimp only at k); go_simp; try with_reducible rfl); try simp only [Act.put, put9]
      refine wpAnyH_done (by kernel_rfl) ?_ _
      have c9 := HB5.out.at_ 0
      have f9 := HB5.out.fr 0
      have c8 := HSB.out _ HP5.out
      simp only [List.getElem?_toArray, List.getElem?_cons_zero] at c9
      have HHL := Hid.intro_ hHeld
      have HIL := Hid.intro_ hil
      have hkk : Hid (Keep (fun z => ¬ z = l) W _) := Hid.intro_ (((Keep.refl (fun z => ¬ z = l) W).drew).then_ (HK5.out.mono (fun z _ h e => h (.inr e))))
      clear hHeld hq1 hq2 hq3 hq4 hil
      by_cases his : i = stop
      · have e1 : ((i : Int) == (stop : Int)) = true := by rw [his]; simp
        have HIS := Hid.intro_ his
        clear his
        gi_wp2
        exact ⟨⟨rfl, HIS.out⟩, HP5.out, HB5.out, hkk.out⟩
      · have e1 : ((i : Int) == (stop : Int)) = false := by
          have : ¬ (i : Int) = (stop : Int) := by omega
          simpa using this
        have HIS := Hid.intro_ his
        clear his
        gi_wp2
        exact ⟨HIS.out, HRN.out.turn _ _ HP5.out ((Keep.refl (fun z => z = ib1) _).setCell (p := ⟨ib1, 0, none⟩) (fun _ => rfl) _), HB5.out.set_ 0 _, hkk.out.setCell (p := ⟨ib1, 0, none⟩) (fun _ => HIL.out) _⟩
    case done =>
      intro D Wa hle hrt
      obtain ⟨Gb, sb, hlb, hDb, hgb⟩ := hl1.rng hrt HNI1.out
      obtain ⟨n, hn⟩ : ∃ n, n = ws.length := ⟨_, rfl⟩
      have hen : d.cubes.length = n := by rw [hn, HWS.out, List.length_take]; omega
      have c9 : Wa.cell? ⟨ib1, 0, none⟩ = some (.int .i64 n) := by rw [← hen]; exact hrt.box.at_ 0
      have c7 : Wa.cell? ⟨T, 0, none⟩ = some (.slice A n cap) := by rw [hn]; exact hlb.fix.want.at_ 0
      have r1 : Wa.cell? ⟨w.heap.size, 1, none⟩ = some (.pointer (some ⟨c.p, 0, none⟩)) := hlb.fix.room.at_ 1
      have HUS := Hid.intro_ hlb.usd
      have HRT := Hid.intro_ hrt
      have HDB := Hid.intro_ hDb
      have HGB := Hid.intro_ hgb
      clear hl1 hof1 hb1 hrt hlb hDb hgb hn hen
      go_wp2_with fail
      refine HUS.out.mono ?_
      rintro e Wc ⟨rfl, Gc, hlc, stc⟩
      have HG1 := Hid.intro_ (fun m' (hm' : m' + (k + 1) = 3) => LpAt.go HDS.out HLP.out.nd HKV.out HIX.out HLE2.out HRT.out HGB.out HDB.out stc hlc hm' HK2.out)
      clear c9 c7 r1 hlc stc HUS
      go_wp2_with fail
      have hnum := HLP.out.num
      have hk2 := HK2.out
      exact Handed.intro (m - 1) (by omega) (hJ _ _ _ ⟨_, _, _, _, _, _, _, _, _, _, _, _, _, _, _, _, _, _, _, _, _, _, _, _, _, _, _, _, _, _, _, _, _, _, _, _, _, _, _, _, _, _, _, _, _, _, _, _, _, _, _, _, _, _, _, _, _, _, _, _, _, _, _, _, _, _, _, _, _, _, _, k + 1, D :: ds, rfl, HG1.out _ (by omega)⟩)
    case stop =>
      intro D Wa hlt hrt
      obtain ⟨Gb, sb, hlb, hDb, hgb⟩ := hl1.rng hrt HNI1.out
      obtain ⟨n, hn⟩ : ∃ n, n = ws.length := ⟨_, rfl⟩
      have hen : n = stop + 1 := by rw [hn, HWS.out, List.length_take]; omega
      have hnq : ¬ stop = n := by omega
      have hnq2 : decide (stop = n) = false := decide_eq_false hnq
      have c9 : Wa.cell? ⟨ib1, 0, none⟩ = some (.int .i64 stop) := hrt.box.at_ 0
      have c8 : Wa.cell? ⟨w.heap.size + 2, 0, none⟩ = some (.int .i64 stop) := hlb.fix.stop.at_ 0
      have c7 : Wa.cell? ⟨T, 0, none⟩ = some (.slice A n cap) := by rw [hn]; exact hlb.fix.want.at_ 0
      have r1 : Wa.cell? ⟨w.heap.size, 1, none⟩ = some (.pointer (some ⟨c.p, 0, none⟩)) := hlb.fix.room.at_ 1
      have HUS := Hid.intro_ hlb.usd
      have HRT := Hid.intro_ hrt
      have HDB := Hid.intro_ hDb
      have HGB := Hid.intro_ hgb
      clear hl1 hof1 hb1 hrt hlb hDb hgb hn hen
      go_wp2_with fail
      refine HUS.out.mono ?_
      rintro e Wc ⟨rfl, Gc, hlc, stc⟩
      have HG1 := Hid.intro_ (fun m' (hm' : m' + (k + 1) = 3) => LpAt.go HDS.out HLP.out.nd HKV.out HIX.out HLE2.out HRT.out HGB.out HDB.out stc hlc hm' HK2.out)
      clear c9 c7 r1 hlc stc HUS
      go_wp2_with fail
      have hnum := HLP.out.num
      have hk2 := HK2.out
      exact Handed.intro (m - 1) (by omega) (hJ _ _ _ ⟨_, _, _, _, _, _, _, _, _, _, _, _, _, _, _, _, _, _, _, _, _, _, _, _, _, _, _, _, _, _, _, _, _, _, _, _, _, _, _, _, _, _, _, _, _, _, _, _, _, _, _, _, _, _, _, _, _, _, _, _, _, _, _, _, _, _, _, _, _, _, _, k + 1, D :: ds, rfl, HG1.out _ (by omega)⟩)
  · have hk3 : k = 2 := by have := HLP.out.le; omega
    subst hk3
    have t0 : V.cell? ⟨w.heap.size + 3, 0, none⟩ = some (.bool false) := hl0.bt.at_ 0
    have tf := hl0.bt.fr 0
    have HK := Hid.intro_ hl0
    clear hl0 hds hlp hk2 hJ hK
    go_wp2_with fail
    obtain ⟨W9, hW9⟩ : ∃ W9, W9 = V.setCell ⟨w.heap.size + 3, 0, none⟩ (.bool true) := ⟨_, rfl⟩
    rw [← hW9]
    have hq := HK.out.ib
    have htb := hq (w.heap.size + 3) (by simp)
    have k9 : Keep (fun z => z = w.heap.size + 3) V W9 := by rw [hW9]; exact (Keep.refl (fun z => z = w.heap.size + 3) V).setCell (p := ⟨w.heap.size + 3, 0, none⟩) (fun _ => rfl) _
    have b9 : Blk W9 (w.heap.size + 3) 4 #[.bool true] := by rw [hW9]; exact HK.out.bt.set_ 0 _
    have hds := HDS.out
    have hne : ∀ D ∈ ds, ¬ D = w.heap.size + 3 := fun D h => by have := (hds D h).2; omega
    refine leaves_marks ds W9 (fun D h => (k9.same D (lt_of_heap (hds D h).1.dfr) (hne D h)).trans (hds D h).1.dfr) HLP.out.nd (fun W' k' => ?_)
    have t9 : W'.cell? ⟨w.heap.size + 3, 0, none⟩ = some (.bool true) := (b9.keep k' (fun h => hne _ h rfl)).at_ 0
    have hkk : Keep G0 w W' := (HK.out.keep.trans k9 (fun z hz e => by have e : z = w.heap.size + 3 := e; omega)).trans k' (fun z hz h => by have := (hds z h).2; omega)
    have HKK := Hid.intro_ hkk
    clear hq htb k9 b9 hds hne k' hkk hW9
    refine ⟨.bool true, by simp [results, Tryz.results53, go_sem, t9], rfl, HKK.out⟩
end
end Go.Proofs.YtadipinnbehhhaaGreatDoor
namespace Go.Proofs.YtadipinnbehhhaaGreatDoor
open Go.RowKit

theorem tc_ak {c : Cx} {d : Dg} (hd : DgOk d) (hl : (recsD d).length ≤ 131073) (lim : Int) (h : 64 * (c.K : Int) ≤ lim) (hK : c.K ≤ 9) : AkP c (tcFs (recsD d) c.block) nmF d { D := mountD (c.block : Int) 1073741824 (tcFs (recsD d) c.block), S := PSt.new lim, next := 1 } :=
  ⟨tc_f hd.rows.oks (by omega), mount_calm30 _ _, hd, rfl, rfl, rfl, h, by omega⟩
theorem tc_passes {c : Cx} {d : Dg} {V : World} {G : Nat → Prop} {nn bb mm : Int} {A1 A2 : Value} {stop : Nat} (hd : DgOk d) (hl : (recsD d).length ≤ 131073) (lim : Int) (h : 64 * (c.K : Int) ≤ lim) (hK : c.K ≤ 9) (hr : RmAt c V G { D := mountD (c.block : Int) 1073741824 (tcFs (recsD d) c.block), S := PSt.new lim, next := 1 }) (hs : stop < 200)
    (HD : ∀ W, Keep Nil V W → Calls Tryz.prog 118 #[.agg #[.int .i64 nn, A1, A2, .int .i64 bb, .int .i64 mm]] W fun e w' => ∃ A cap, e = .returned (dgV d A cap) ∧ DgAt w' d A ∧ Keep Nil W w') :
    Calls Tryz.prog 53 #[.agg #[.pointer (some ⟨c.d, 0, none⟩), .pointer (some ⟨c.p, 0, none⟩), .pointer (some ⟨c.k, 0, none⟩)], .agg #[.int .i64 nn, A1, A2, .int .i64 bb, .int .i64 mm], .int .i64 stop] V fun e w' => e = .returned (.bool true) ∧ Keep G V w' :=
  passes_true (tc_ak hd hl lim h hK) hr hs HD
set_option maxRecDepth 100000 in
set_option maxHeartbeats 8000000 in
theorem cubes_true (E : Nat → Addr) (nn : Int) (A1 : Option Addr) (c1 : Nat) (at_ : List Int) (A2 : Option Addr) (c2 : Nat) (bits : List Bool) (bb mm stop : Int) (w : World) (h : CaAt w A1 at_ A2 bits) (he : ErrsAt w E) (hh : HalvesAt w) (hm : MagicAt w) :
    Calls Tryz.prog 7 #[caV nn A1 at_.length c1 A2 bits.length c2 bb mm, .int .i64 stop] w fun e w' => e = .returned (.bool true) ∧ Keep Nil w w' := by
  have HOP := Hid.intro_ (fun W (k : Keep Nil w W) => topen_any E nn A1 c1 at_ A2 c2 bits bb mm W (h.nil k) (he.keep k (fun _ _ h => h) (fun _ _ h => h)) (hh.keep k (fun h => h)) (hm.keep k (fun h => h)))
  obtain ⟨ok, hv⟩ := caseF_ok nn at_ bits
  have hdg := rowsN_ok ok hv
  have hlen : (recsD (rowsN (caseF nn at_ bits))).length ≤ 131073 := by rw [recsD_len]; have := rowsN_len ok hv; omega
  have HDI := Hid.intro_ (fun W (k : Keep Nil w W) => diagram_any nn A1 c1 at_ A2 c2 bits bb mm W (h.nil k))
  have hk := kC_fit bb
  obtain ⟨d, hd⟩ : ∃ d, d = rowsN (caseF nn at_ bits) := ⟨_, rfl⟩
  rw [← hd] at hdg hlen HOP HDI
  obtain ⟨x, hx⟩ : ∃ x, x = stop % 200 := ⟨_, rfl⟩
  have hx2 := Int.emod_nonneg stop (b := 200) (by omega)
  have hx3 := Int.emod_lt_of_pos stop (b := 200) (by omega)
  obtain ⟨sn, hsn⟩ : ∃ sn : Nat, (sn : Int) = stop % 200 := ⟨(stop % 200).toNat, by omega⟩
  have hsn2 : sn < 200 := by omega
  have HBL := Hid.intro_ (fun W => lbelow_any stop 200 (by omega) W)
  rw [← hsn] at HBL
  have HPA := Hid.intro_ (show ∀ (V : World) (G : Nat → Prop) (dd pp lk kk : Nat) (lim : Int), Keep Nil w V → RmAt ⟨E, dd, pp, lk, kk, none, kC bb, blkC bb⟩ V G { D := mountD (blkC bb : Nat) 1073741824 (tcFs (recsD d) (blkC bb)), S := PSt.new lim, next := 1 } → 64 * (kC bb : Int) ≤ lim → Calls Tryz.prog 53 #[.agg #[.pointer (some ⟨dd, 0, none⟩), .pointer (some ⟨pp, 0, none⟩), .pointer (some ⟨kk, 0, none⟩)], caV nn A1 at_.length c1 A2 bits.length c2 bb mm, .int .i64 sn] V fun e w' => e = .returned (.bool true) ∧ Keep G V w' from fun V G dd pp lk kk lim kV hr hlim => by
    exact tc_passes (c := ⟨E, dd, pp, lk, kk, none, kC bb, blkC bb⟩) (A1 := .slice A1 at_.length c1) (A2 := .slice A2 bits.length c2) hdg hlen lim hlim hk.2.2.1 hr hsn2 (fun W k => HDI.out W (kV.then_ k)))
  obtain ⟨l1, hl1⟩ : ∃ l, l = at_.length := ⟨_, rfl⟩
  obtain ⟨l2, hl2⟩ : ∃ l, l = bits.length := ⟨_, rfl⟩
  unfold caV at HOP HPA
  unfold caV
  rw [← hl1, ← hl2] at HOP HPA
  rw [← hl1, ← hl2]
  obtain ⟨W0, hW0⟩ : ∃ W0, W0 = w.alloc (.cells #[.int .i64 nn, .slice A1 l1 c1, .slice A2 l2 c2, .int .i64 bb, .int .i64 mm] 124) := ⟨_, rfl⟩
  have HK0 := Hid.intro_ (show Keep Nil w W0 by rw [hW0]; exact (Keep.refl Nil w).alloc _)
  have hb0 : Blk W0 w.heap.size 124 #[.int .i64 nn, .slice A1 l1 c1, .slice A2 l2 c2, .int .i64 bb, .int .i64 mm] := by rw [hW0]; exact Blk.new w _ _
  have i0 : W0.cell? ⟨w.heap.size, 0, none⟩ = some (.int .i64 nn) := hb0.at_ 0
  have i1 : W0.cell? ⟨w.heap.size, 1, none⟩ = some (.slice A1 l1 c1) := hb0.at_ 1
  have i2 : W0.cell? ⟨w.heap.size, 2, none⟩ = some (.slice A2 l2 c2) := hb0.at_ 2
  have i3 : W0.cell? ⟨w.heap.size, 3, none⟩ = some (.int .i64 bb) := hb0.at_ 3
  have i4 : W0.cell? ⟨w.heap.size, 4, none⟩ = some (.int .i64 mm) := hb0.at_ 4
  have HB0 := Hid.intro_ hb0
  have hb0l := Hid.intro_ hb0.lt
  clear h he hh hm ok hv hdg hlen hd hx hx2 hx3 hsn hsn2 hk hl1 hl2 hb0
  go_enter Tryz.func7, Tryz.ntmps7
  go_upto_region 1 with (fail)
  rw [← hW0]
  clear hW0
  go_wp2_with fail
  refine (HOP.out W0 HK0.out).mono ?_
  rintro e w1 ⟨⟨dd, pp, lk, kk, G, lim, rfl, hrm, hlim, hG, k1⟩⟩
  obtain ⟨V, hV⟩ : ∃ V, V = w1.alloc (.cells #[.pointer (some ⟨dd, 0, none⟩), .pointer (some ⟨pp, 0, none⟩), .pointer (some ⟨kk, 0, none⟩)] 126) := ⟨_, rfl⟩
  have kV : Keep Nil w1 V := by rw [hV]; exact (Keep.refl Nil w1).alloc _
  have hbV : Blk V w1.heap.size 126 #[.pointer (some ⟨dd, 0, none⟩), .pointer (some ⟨pp, 0, none⟩), .pointer (some ⟨kk, 0, none⟩)] := by rw [hV]; exact Blk.new w1 _ _
  have HKV := Hid.intro_ ((HK0.out.then_ k1).then_ kV)
  have hbx := HB0.out.keep (k1.then_ kV) (fun h => h)
  have HPX := Hid.intro_ (HPA.out V.drew G dd pp lk kk lim (HKV.out.then_ (Keep.refl Nil V).drew) (hrm.nil (kV.then_ (Keep.refl Nil V).drew)) hlim)
  have HG := Hid.intro_ (show ∀ z, G z → W0.heap.size ≤ z from hG)
  have j0 : V.cell? ⟨w.heap.size, 0, none⟩ = some (.int .i64 nn) := hbx.at_ 0
  have j1 : V.cell? ⟨w.heap.size, 1, none⟩ = some (.slice A1 l1 c1) := hbx.at_ 1
  have j2 : V.cell? ⟨w.heap.size, 2, none⟩ = some (.slice A2 l2 c2) := hbx.at_ 2
  have j3 : V.cell? ⟨w.heap.size, 3, none⟩ = some (.int .i64 bb) := hbx.at_ 3
  have j4 : V.cell? ⟨w.heap.size, 4, none⟩ = some (.int .i64 mm) := hbx.at_ 4
  have r0 : V.cell? ⟨w1.heap.size, 0, none⟩ = some (.pointer (some ⟨dd, 0, none⟩)) := hbV.at_ 0
  have r1 : V.cell? ⟨w1.heap.size, 1, none⟩ = some (.pointer (some ⟨pp, 0, none⟩)) := hbV.at_ 1
  have r2 : V.cell? ⟨w1.heap.size, 2, none⟩ = some (.pointer (some ⟨kk, 0, none⟩)) := hbV.at_ 2
  have hg1 : ¬ G w.heap.size := fun e => by have h1 := hG _ e; have h2 := hb0l.out; omega
  have hg2 : ¬ G w1.heap.size := fun e => Nat.lt_irrefl _ (hrm.lt _ e)
  have HSG := Hid.intro_ (show ∀ X, Keep G V X → X.cell? ⟨w.heap.size, 0, none⟩ = some (.int .i64 nn) ∧ X.cell? ⟨w.heap.size, 1, none⟩ = some (.slice A1 l1 c1) ∧ X.cell? ⟨w.heap.size, 2, none⟩ = some (.slice A2 l2 c2) ∧ X.cell? ⟨w.heap.size, 3, none⟩ = some (.int .i64 bb) ∧ X.cell? ⟨w.heap.size, 4, none⟩ = some (.int .i64 mm) ∧ X.cell? ⟨w1.heap.size, 0, none⟩ = some (.pointer (some ⟨dd, 0, none⟩)) ∧ X.cell? ⟨w1.heap.size, 1, none⟩ = some (.pointer (some ⟨pp, 0, none⟩)) ∧ X.cell? ⟨w1.heap.size, 2, none⟩ = some (.pointer (some ⟨kk, 0, none⟩)) from fun X k => by
    have x := hbx.keep k hg1
    have y := hbV.keep k hg2
    exact ⟨x.at_ 0, x.at_ 1, x.at_ 2, x.at_ 3, x.at_ 4, y.at_ 0, y.at_ 1, y.at_ 2⟩)
  clear kV hbV hbx hrm hlim hG hg1 hg2 k1 i0 i1 i2 i3 i4 HOP HPA HDI
  go_upto_region 2 with (fail)
  rw [← hV]
  clear hV
  refine wp_region_held_drew (S := (fun X => X.cell? ⟨w.heap.size, 0, none⟩ = some (.int .i64 nn) ∧ X.cell? ⟨w.heap.size, 1, none⟩ = some (.slice A1 l1 c1) ∧ X.cell? ⟨w.heap.size, 2, none⟩ = some (.slice A2 l2 c2) ∧ X.cell? ⟨w.heap.size, 3, none⟩ = some (.int .i64 bb) ∧ X.cell? ⟨w.heap.size, 4, none⟩ = some (.int .i64 mm) ∧ X.cell? ⟨w1.heap.size, 0, none⟩ = some (.pointer (some ⟨dd, 0, none⟩)) ∧ X.cell? ⟨w1.heap.size, 1, none⟩ = some (.pointer (some ⟨pp, 0, none⟩)) ∧ X.cell? ⟨w1.heap.size, 2, none⟩ = some (.pointer (some ⟨kk, 0, none⟩)))) (by kernel_rfl) ?_ (fun hHeld => ?_)
  · exact HSG.out _ (Keep.refl G V).drew
  refine tk8 (i := 0) (v := ?_) (Or.inl ⟨by kernel_rfl, ?_⟩) ?_; rotate_left; (intro w k; (try dsimp only at k); go_simp; try with_reducible rfl); (try simp only [Act.put, put9]); refine tk8 (i := 1) (v := ?_) (Or.inl ⟨by kernel_rfl, ?_⟩) ?_; rotate_left; (intro w k; (try dsimp only at k); go_simp; try with_reducible rfl); (try simp only [Act.put, put9]); refine tk8 (i := 2) (v := ?_) (Or.inl ⟨by kernel_rfl, ?_⟩) ?_; rotate_left; (intro w k; (try dsimp only at k); go_simp; try with_reducible rfl); (try simp only [Act.put, put9]); refine tk8 (i := 3) (v := ?_) (Or.inl ⟨by kernel_rfl, ?_⟩) ?_; rotate_left; (intro w k; (try dsimp only at k); go_simp; try with_reducible rfl); (try simp only [Act.put, put9]); refine tk8 (i := 4) (v := ?_) (Or.inl ⟨by kernel_rfl, ?_⟩) ?_; rotate_left; (intro w k; (try dsimp only at k); go_simp; try with_reducible rfl); try simp only [Act.put, put9]
  refine wpAnyH_ready (rs := [5]) (by kernel_rfl) (by simp) ?_
  refine AllReadyH.cons (by simp only [get9]; rfl) (fun K hK => ?_) AllReadyH.nil
  go_simp
  go_at_call 54
  refine (HBL.out _).mono ?_
  rintro e w' ⟨rfl, hw⟩
  obtain rfl := hw.symm
  refine hK.out _ _ ?_ (fun hHeld => ?_)
  · exact HSG.out _ (Keep.refl G V).drew
  clear hK K
  try simp only [Act.put, put9]
  refine wpAnyH_ready (rs := [6]) (by kernel_rfl) (by simp) ?_
  refine AllReadyH.cons (by simp only [get9]; rfl) (fun K hK => ?_) AllReadyH.nil
  go_simp
  go_at_call 53
  refine HPX.out.mono ?_
  rintro e w3 ⟨rfl, kp0⟩
  have kp : Keep G V w3 := ((Keep.refl G V).drew).then_ kp0
  refine hK.out _ _ ?_ (fun hHeld => ?_)
  · exact HSG.out _ kp
  clear hK K
  (try simp only [Act.put, put9]); refine tk8 (i := 7) (v := ?_) (Or.inl ⟨by kernel_rfl, ?_⟩) ?_; rotate_left; (intro w k; (try dsimp only at k); go_simp; try with_reducible rfl); (try simp only [Act.put, put9]); refine tk8 (i := 8) (Or.inr ⟨by kernel_rfl, rfl⟩) ?_; (try simp only [Act.put, put9]); refine tk8 (i := 9) (Or.inr ⟨by kernel_rfl, rfl⟩) ?_; (try simp only [Act.put, put9]); refine tk8 (i := 10) (v := ?_) (Or.inl ⟨by kernel_rfl, ?_⟩) ?_; rotate_left; (intro w k; (try dsimp only at k); go_simp; try with_reducible rfl); (try simp only [Act.put, put9]); refine tk8 (i := 11) (v := ?_) (Or.inl ⟨by kernel_rfl, ?_⟩) ?_; rotate_left; (intro w k; (try dsimp only at k); go_simp; try with_reducible rfl); (try simp only [Act.put, put9]); refine tk8 (i := 12) (v := ?_) (Or.inl ⟨by kernel_rfl, ?_⟩) ?_; rotate_left; (intro w k; (try dsimp only at k); go_simp; try with_reducible rfl); try simp only [Act.put, put9]
  refine wpAnyH_done (by kernel_rfl) ?_ _
  go_wp2_with fail
  go_ret
  exact ⟨rfl, HKV.out.trans kp (fun z hz hg => by have h1 := HG.out z hg; have h2 := HK0.out.size; omega)⟩
end Go.Proofs.YtadipinnbehhhaaGreatDoor
