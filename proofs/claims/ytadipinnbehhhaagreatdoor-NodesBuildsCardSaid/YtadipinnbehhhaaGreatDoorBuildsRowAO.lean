/- The builder against the law's model: the same answers, whatever is asked; plain, no program in sight. The room's question: has the disk what it had and these files, no others? Where it is so: yes. What the law asks of its room, in the room's words. The law's model: add where it refuses early; done. -/
import Derived.Test.YtadipinnbehhhaaGreatDoorBuildsRowAN
import Derived.Test.YtadipinnbehhhaaGreatDoorBuildsRowAL
namespace Go.Proofs.YtadipinnbehhhaaGreatDoor
open Go.RowKit

/-- What the model's add comes to, the number being known. -/
def moAdd2 (m : Mo) (level : Int) (low high : Nat) (id : Int) : Int × Int × Mo :=
  if (!isN (inner level id).1.toNat low high 0 m.vars || (decide (0 < id) && !bhd low high m.last.low m.last.high)) = true then (0, 70, m)
  else ((inner level id).1, 0, { m with last := ⟨(inner level id).1.toNat, low, high⟩, any := true, recs := m.recs ++ [⟨(inner level id).1.toNat, low, high, 0⟩] })
/-- What the model's add comes to: pointer, number, model. -/
def moAdd (m : Mo) (level : Int) (low high : Nat) : Int × Int × Mo :=
  if m.done = true then (0, 6, m) else if level < 0 ∨ (m.vars : Int) ≤ level then (0, 3, m) else match moId m level with
    | none => (0, 70, m)
    | some id => moAdd2 m level low high id
/-- A root that the model refuses. -/
def moBad (m : Mo) (root : Nat) : Bool := if m.any then !decide (root = m.last.self) || !decide (sI m.last.self = 0) else !sF root
/-- What the model's done comes to. -/
def moDone (m : Mo) (root : Nat) : Int × Mo :=
  if m.done = true then (6, m) else if moBad m root = true then (71, m)
  else (0, { m with done := true, recs := m.recs ++ [⟨18446744073709551615, m.vars, root, m.recs.length⟩] })
/-- The model, dropped. -/
def moDrop (m : Mo) : Mo := if m.done = true then m else { m with done := true, recs := [] }

/-- Sound numbers of a model. -/
structure MoOk (m : Mo) (n : Nat) : Prop where
  vars : m.vars ≤ 65536
  oks : ∀ r ∈ m.recs, r.Ok
  last : m.last.Ok
  len : m.recs.length ≤ n

/-- A builder that is open, and the model. -/
structure Live (c : Cx) (fs : List (ByteArray × AFile)) (name : ByteArray) (s : RSt) (x : WSt) (y : BSt) (m : Mo) : Prop where
  w : WLive c fs name s x m.recs
  vars : y.vars = m.vars
  last : y.last = m.last
  some_ : y.some_ = m.any
  dead : y.dead = 0
  done : y.done = false
  mdone : m.done = false
  id : sI m.last.self ≤ m.recs.length
/-- A builder that is closed, and the model. -/
structure Over (c : Cx) (fs : List (ByteArray × AFile)) (name : ByteArray) (s : RSt) (y : BSt) (m : Mo) : Prop where
  done : y.done = true
  mdone : m.done = true
  shut : Shut c (if m.recs = [] then fs else fs ++ [(name, ⟨true, blocksB 2 m.recs c.block⟩)]) s
def Sim (c : Cx) (fs : List (ByteArray × AFile)) (name : ByteArray) (s : RSt) (x : WSt) (y : BSt) (m : Mo) : Prop := Live c fs name s x y m ∨ Over c fs name s y m

/-- What does not turn: the numbers of the room, the file's name. -/
structure Frm (c : Cx) (fs : List (ByteArray × AFile)) (name : ByteArray) (lim : Nat) : Prop where
  fit : fit c.block = c.K
  pos : 0 < c.K
  ok : okName name = true
  new : name ∉ fs.map (·.1)
  room : total fs + lim + 1 < 1099511627776
  lim : lim ≤ 268435457

section
variable {c : Cx} {fs : List (ByteArray × AFile)} {name : ByteArray} {s : RSt} {x : WSt} {y : BSt} {m : Mo} {n lim : Nat} {level id : Int} {low high root : Nat}

theorem sL_mk (l i : Nat) (hl : l < 65536) (hi : i < 1099511627776) : sIn (l * 1099511627776 + i) = true ∧ sL (l * 1099511627776 + i) = l ∧ sI (l * 1099511627776 + i) = i := by
  have e1 : (l * 1099511627776 + i) / 1099511627776 = l := by omega
  have e2 : (l * 1099511627776 + i) % 1099511627776 = i := by omega
  have e : sIn (l * 1099511627776 + i) = true := by
    unfold sIn sF
    rw [e1]
    have h1 : ¬ l * 1099511627776 + i = 9223372036854775808 := by omega
    have h2 : ¬ l * 1099511627776 + i = 9223372036854775809 := by omega
    simp only [decide_eq_false h1, decide_eq_false h2, decide_eq_true hl]
    rfl
  refine ⟨e, ?_, ?_⟩
  · unfold sL; rw [e, e1]; simp
  · unfold sI; rw [e, e2]; simp
/-- The pointer of a level and a number. -/
theorem inner_good (hl : 0 ≤ level ∧ level < 65536) (hi : 0 ≤ id ∧ id ≤ 1099511627775) : inner level id = (((level.toNat * 1099511627776 + id.toNat : Nat) : Int), 0) := by
  unfold inner
  rw [if_neg (by omega), if_neg (by omega)]
  congr 1
  omega
theorem isN_good (hl : 0 ≤ level ∧ level < m.vars) (hv : m.vars ≤ 65536) (hi : 0 ≤ id ∧ id ≤ 1099511627775) :
    isN (inner level id).1.toNat low high 0 m.vars = (!decide (low = high) && uN low level m.vars && uN high level m.vars) := by
  rw [inner_good ⟨hl.1, by omega⟩ hi]
  obtain ⟨e1, e2, e3⟩ := sL_mk level.toNat id.toNat (by omega) (by omega)
  have hn : nOk (level.toNat * 1099511627776 + id.toNat) m.vars = true := by
    unfold nOk sK
    unfold sIn at e1
    simp only [Bool.and_eq_true, Bool.not_eq_true', decide_eq_true_eq] at e1 ⊢
    rw [e2, e1.1]
    refine ⟨⟨by simp [e1.2], rfl⟩, by omega⟩
  unfold isN
  simp only [Int.toNat_natCast]
  rw [hn, e2, show ((level.toNat : Nat) : Int) = level by omega, under_same low level m.vars hl.1, under_same high level m.vars hl.1]
  simp

theorem moId_bd (h : moId m level = some id) : 0 ≤ id ∧ id ≤ sI m.last.self + 1 := by
  have := sI_lt m.last.self
  unfold moId at h
  split at h
  · injection h with h; omega
  · split at h
    · cases h
    · split at h
      · injection h with h; omega
      · injection h with h; omega

theorem Live.add (h : Live c fs name s x y m) (hf : Frm c fs name lim) (hm : MoOk m n) (hn : n < lim) (hlo : low < 18446744073709551616) (hhi : high < 18446744073709551616) :
    (badd c s x y level low high).p = (moAdd m level low high).1 ∧ (badd c s x y level low high).e = (moAdd m level low high).2.1 ∧
    Live c fs name (badd c s x y level low high).s (badd c s x y level low high).x (badd c s x y level low high).y (moAdd m level low high).2.2 ∧ MoOk (moAdd m level low high).2.2 (n + 1) := by
  have hl := hf.lim
  have hroom := hf.room
  have hlen := hm.len
  have same : Live c fs name s x y m ∧ MoOk m (n + 1) := ⟨h, ⟨hm.vars, hm.oks, hm.last, by omega⟩⟩
  have e1 : badd c s x y level low high = if level < 0 ∨ (m.vars : Int) ≤ level then ⟨0, 3, s, x, y⟩ else match bid y level with
      | none => ⟨0, 70, s, x, y⟩
      | some id => badd2 c s x y level low high id := by
    conv => lhs; unfold badd
    rw [if_neg (by rw [h.done]; simp), if_neg (by rw [h.dead]; simp), h.vars]
    rfl
  have e2 : moAdd m level low high = if level < 0 ∨ (m.vars : Int) ≤ level then (0, 3, m) else match moId m level with
      | none => (0, 70, m)
      | some id => moAdd2 m level low high id := by
    conv => lhs; unfold moAdd
    rw [if_neg (by rw [h.mdone]; simp)]
  rw [e1, e2]
  clear e1 e2
  by_cases hb : level < 0 ∨ (m.vars : Int) ≤ level
  · rw [if_pos hb, if_pos hb]
    exact ⟨rfl, rfl, same⟩
  rw [if_neg hb, if_neg hb]
  have hbid : bid y level = moId m level := by
    unfold bid moId
    rw [h.some_, h.last]
  rw [hbid]
  cases hid : moId m level with
  | none => exact ⟨rfl, rfl, same⟩
  | some id =>
    simp only
    obtain ⟨i0, i1⟩ := moId_bd hid
    have i2 := h.id
    have hv := hm.vars
    have hid2 : id ≤ 1099511627775 := by omega
    have hin := inner_good (level := level) (id := id) ⟨by omega, by omega⟩ ⟨i0, hid2⟩
    have hisN := isN_good (m := m) (low := low) (high := high) (level := level) (id := id) ⟨by omega, by omega⟩ hv ⟨i0, hid2⟩
    have hbad : badArc y level low high id = (!isN (inner level id).1.toNat low high 0 m.vars || (decide (0 < id) && !bhd low high m.last.low m.last.high)) := by
      unfold badArc
      rw [hisN, h.vars, h.last]
      cases decide (low = high) <;> cases uN low level m.vars <;> cases uN high level m.vars <;> rfl
    unfold badd2 moAdd2
    rw [hbad]
    by_cases hq : (!isN (inner level id).1.toNat low high 0 m.vars || (decide (0 < id) && !bhd low high m.last.low m.last.high)) = true
    · rw [if_pos hq, if_pos hq]
      exact ⟨rfl, rfl, same⟩
    rw [if_neg hq, if_neg hq, if_neg (by rw [hin]; simp)]
    obtain ⟨p1, p2⟩ := h.w.put ⟨(inner level id).1.toNat, low, high, 0⟩ hf.fit hf.pos hf.ok hf.new (by omega)
    rw [if_neg (by rw [p1]; simp)]
    obtain ⟨e1, e2, e3⟩ := sL_mk level.toNat id.toNat (by omega) (by omega)
    have hself : (inner level id).1.toNat = level.toNat * 1099511627776 + id.toNat := by rw [hin]; exact Int.toNat_natCast _
    have hlt : (inner level id).1.toNat < 18446744073709551616 := by rw [hself]; omega
    refine ⟨rfl, rfl, ⟨p2, h.vars, rfl, rfl, h.dead, h.done, h.mdone, ?_⟩, ⟨hm.vars, ?_, ⟨hlt, hlo, hhi⟩, ?_⟩⟩
    · show sI (inner level id).1.toNat ≤ _
      rw [hself, e3]
      simp only [List.length_append, List.length_singleton]
      omega
    · intro r hr
      rcases List.mem_append.1 hr with hr | hr
      · exact hm.oks r hr
      · rw [List.mem_singleton.1 hr]
        exact ⟨hlt, hlo, hhi, (by decide : 0 < 18446744073709551616)⟩
    · simp only [List.length_append, List.length_singleton]
      omega
theorem Over.add (h : Over c fs name s y m) :
    (badd c s x y level low high).p = (moAdd m level low high).1 ∧ (badd c s x y level low high).e = (moAdd m level low high).2.1 ∧
    Over c fs name (badd c s x y level low high).s (badd c s x y level low high).y (moAdd m level low high).2.2 ∧ (moAdd m level low high).2.2 = m := by
  have e1 : badd c s x y level low high = ⟨0, 6, s, x, y⟩ := by unfold badd; rw [if_pos h.done]
  have e2 : moAdd m level low high = (0, 6, m) := by unfold moAdd; rw [if_pos h.mdone]
  rw [e1, e2]
  exact ⟨rfl, rfl, h, rfl⟩
theorem Sim.add (h : Sim c fs name s x y m) (hf : Frm c fs name lim) (hm : MoOk m n) (hn : n < lim) (hlo : low < 18446744073709551616) (hhi : high < 18446744073709551616) :
    (badd c s x y level low high).p = (moAdd m level low high).1 ∧ (badd c s x y level low high).e = (moAdd m level low high).2.1 ∧
    Sim c fs name (badd c s x y level low high).s (badd c s x y level low high).x (badd c s x y level low high).y (moAdd m level low high).2.2 ∧ MoOk (moAdd m level low high).2.2 (n + 1) := by
  rcases h with h | h
  · obtain ⟨a, b, d, e⟩ := h.add (level := level) hf hm hn hlo hhi
    exact ⟨a, b, .inl d, e⟩
  · obtain ⟨a, b, d, e⟩ := h.add (x := x) (level := level) (low := low) (high := high)
    exact ⟨a, b, .inr d, by rw [e]; exact ⟨hm.vars, hm.oks, hm.last, by have := hm.len; omega⟩⟩

theorem Sim.fin (h : Sim c fs name s x y m) (hf : Frm c fs name lim) (hm : MoOk m n) (hn : n < lim) (hroot : root < 18446744073709551616) :
    (bdone c s x y root).1 = (moDone m root).1 ∧
    Sim c fs name (bdone c s x y root).2.1 (bdone c s x y root).2.2.1 (bdone c s x y root).2.2.2 (moDone m root).2 ∧ MoOk (moDone m root).2 (n + 1) := by
  have hl := hf.lim
  have hroom := hf.room
  have hlen := hm.len
  have mo : MoOk m (n + 1) := ⟨hm.vars, hm.oks, hm.last, by omega⟩
  rcases h with h | h
  · have hbad : badRoot y root = moBad m root := by
      unfold badRoot moBad
      rw [h.some_, h.last]
    by_cases hb : moBad m root = true
    · have e1 : bdone c s x y root = (71, s, x, y) := by
        unfold bdone
        rw [if_neg (by rw [h.done]; simp), if_neg (by rw [h.dead]; simp), if_pos (by rw [hbad]; exact hb)]
      have e2 : moDone m root = (71, m) := by
        unfold moDone
        rw [if_neg (by rw [h.mdone]; simp), if_pos hb]
      rw [e1, e2]
      exact ⟨rfl, .inl h, mo⟩
    · have hrec : endRec y root x.count = ⟨18446744073709551615, m.vars, root, m.recs.length⟩ := by
        unfold endRec
        rw [h.vars, h.w.count]
      obtain ⟨p1, p2⟩ := h.w.put (endRec y root x.count) hf.fit hf.pos hf.ok hf.new (by omega)
      obtain ⟨q1, q2⟩ := p2.close hf.fit hf.pos hf.ok hf.new (by simp only [List.length_append, List.length_singleton]; omega)
      have e1 : bdone c s x y root = (0, (wclose c (wput c s x (endRec y root x.count)).2.1 (wput c s x (endRec y root x.count)).2.2).2.1, (wclose c (wput c s x (endRec y root x.count)).2.1 (wput c s x (endRec y root x.count)).2.2).2.2, { y with done := true }) := by
        unfold bdone
        rw [if_neg (by rw [h.done]; simp), if_neg (by rw [h.dead]; simp), if_neg (by rw [hbad]; exact hb), if_pos p1, q1]
      have e2 : moDone m root = (0, { m with done := true, recs := m.recs ++ [⟨18446744073709551615, m.vars, root, m.recs.length⟩] }) := by
        unfold moDone
        rw [if_neg (by rw [h.mdone]; simp), if_neg hb]
      rw [e1, e2]
      refine ⟨rfl, .inr ⟨rfl, rfl, ?_⟩, ⟨hm.vars, ?_, hm.last, ?_⟩⟩
      · rw [if_neg (by simp)]
        rw [hrec] at q2 ⊢
        exact q2
      · intro r hr
        rcases List.mem_append.1 hr with hr | hr
        · exact hm.oks r hr
        · rw [List.mem_singleton.1 hr]
          have := hm.vars
          exact ⟨(by decide : 18446744073709551615 < 18446744073709551616), by simp only; omega, hroot, by simp only; omega⟩
      · simp only [List.length_append, List.length_singleton]
        omega
  · have e1 : bdone c s x y root = (6, s, x, y) := by unfold bdone; rw [if_pos h.done]
    have e2 : moDone m root = (6, m) := by unfold moDone; rw [if_pos h.mdone]
    rw [e1, e2]
    exact ⟨rfl, .inr h, mo⟩
theorem Live.drop (h : Live c fs name s x y m) (hf : Frm c fs name lim) (hm : MoOk m n) :
    (bdrop c s x y).1 = 0 ∧ Over c fs name (bdrop c s x y).2.1 (bdrop c s x y).2.2.2 (moDrop m) ∧ Shut c fs (bdrop c s x y).2.1 ∧ MoOk (moDrop m) (n + 1) := by
  obtain ⟨b1, b2⟩ := h.w.drop hf.ok hf.new
  have e1 : bdrop c s x y = (0, (wdrop c s x).2.1, (wdrop c s x).2.2, { y with done := true }) := by
    unfold bdrop
    rw [if_neg (by rw [h.done]; simp), b1]
  have e2 : moDrop m = { m with done := true, recs := [] } := by
    unfold moDrop
    rw [if_neg (by rw [h.mdone]; simp)]
  rw [e1, e2]
  refine ⟨rfl, ⟨rfl, rfl, ?_⟩, b2, ⟨hm.vars, by simp, hm.last, by simp⟩⟩
  rw [if_pos rfl]
  exact b2
theorem Over.drop (h : Over c fs name s y m) : bdrop c s x y = (6, s, x, y) ∧ moDrop m = m := by
  refine ⟨?_, ?_⟩
  · unfold bdrop; rw [if_pos h.done]
  · unfold moDrop; rw [if_pos h.mdone]
/-- What is out of the purse. -/
theorem Sim.out (h : Sim c fs name s x y m) : s.S.hand + s.S.parts = if m.done = true then 0 else (c.K : Int) := by
  rcases h with h | h
  · rw [h.mdone, h.w.hand, h.w.parts]; simp
  · rw [h.mdone, h.shut.hand, h.shut.parts]; simp
theorem Sim.dones (h : Sim c fs name s x y m) : y.done = m.done := by
  rcases h with h | h
  · rw [h.done, h.mdone]
  · rw [h.done, h.mdone]
/-- A builder that has been begun. -/
theorem begins_live (hc : Calm s.D c.block fs) (hf : Frm c fs name lim) {vars : Nat} (hv : vars ≤ 65536) (h0 : s.S.hand = 0) (h1 : s.S.parts = 0) (h2 : s.S.closed = false) (h3 : (c.K : Int) ≤ s.S.limit) :
    (begins s c.K name vars).1 = 0 ∧ Live c fs name { s with D := (begins s c.K name vars).2.1, S := (begins s c.K name vars).2.2 } { name := name, kind := 2, dead := 0, done := false, place := 0, count := 0, list := [] } { vars := (vars : Int).toNat, last := ⟨0, 0, 0⟩, some_ := false, dead := 0, done := false }
      { vars := vars, last := ⟨0, 0, 0⟩, any := false, done := false, recs := [] } := by
  obtain ⟨b1, b2⟩ := hc.create hf.ok hf.new
  have hfr : s.S.frees = s.S.limit := by unfold PSt.frees; rw [h2, h0, h1]; simp
  have hask : s.S.asked c.K = 0 := by
    unfold PSt.asked
    rw [h2, h0, h1, if_neg (by simp), if_neg (by omega), if_neg (by omega)]
  have e : begins s c.K name vars = (0, (s.D.create name).1, s.S.take c.K) := by
    unfold begins openW
    rw [if_neg (by omega), if_neg (by omega), if_neg (by rw [hc.on]; simp), if_neg (by rw [hc.fresh hf.ok hf.new]; simp), if_neg (by rw [hfr]; omega), if_neg (by rw [b1]; simp)]
  have et : s.S.take c.K = s.S.took c.K := by unfold PSt.take; rw [if_pos hask]
  rw [e, et]
  refine ⟨rfl, ⟨b2, ?_, ?_, ?_, rfl, rfl, rfl, rfl, rfl, by simp, by simp, by simpa using hf.pos⟩, by simp, rfl, rfl, rfl, rfl, rfl, (by decide : sI 0 ≤ ((0 : Nat) : Int))⟩
  · show s.S.hand + _ = _
    rw [h0]; simp
  · exact h1
  · exact h2
end
end Go.Proofs.YtadipinnbehhhaaGreatDoor
namespace Go.Proofs.YtadipinnbehhhaaGreatDoor
open Go.RowKit

/-- The files that are not among those. -/
def rest (gs ws : List (ByteArray × AFile)) : List (ByteArray × AFile) := gs.filter fun g => ws.all fun x => decide (¬ g.1 = x.1)

theorem rest_iff {g : ByteArray × AFile} {ws : List (ByteArray × AFile)} : (ws.all fun x => decide (¬ g.1 = x.1)) = true ↔ g.1 ∉ ws.map (·.1) := by
  rw [List.all_eq_true]
  simp only [decide_eq_true_eq, List.mem_map, not_exists, not_and]
  exact ⟨fun h x hx e => h x hx e.symm, fun h x hx e => h x hx e.symm⟩
theorem rest_nil (gs : List (ByteArray × AFile)) : rest gs [] = gs := by
  unfold rest
  rw [List.filter_eq_self]
  intro g _
  rfl
theorem rest_push (gs ws : List (ByteArray × AFile)) (f : ByteArray × AFile) : others f.1 (rest gs ws) = rest gs (ws ++ [f]) := by
  unfold others rest
  rw [List.filter_filter]
  congr 1
  funext g
  rw [List.all_append, Bool.and_comm]
  simp
theorem rest_sub (gs ws : List (ByteArray × AFile)) : (rest gs ws).Sublist gs := List.filter_sublist
/-- What is wanted next is still there. -/
theorem rest_mem {gs fs ws : List (ByteArray × AFile)} (hp : gs.Perm (fs ++ ws)) (hn : (gs.map (·.1)).Nodup) {k : Nat} {f : ByteArray × AFile} (hf : ws[k]? = some f) : f ∈ rest gs (ws.take k) := by
  have h1 : f ∈ gs := hp.mem_iff.2 (List.mem_append_right _ (List.mem_of_getElem? hf))
  have h2 : ((fs ++ ws).map (·.1)).Nodup := (hp.map _).nodup_iff.1 hn
  unfold rest
  rw [List.mem_filter]
  refine ⟨h1, rest_iff.2 ?_⟩
  intro hm
  obtain ⟨g, hg, e⟩ := List.mem_map.1 hm
  obtain ⟨j, hj⟩ := List.mem_iff_getElem?.1 hg
  have hjk : j < k := by
    have := (List.getElem?_eq_some_iff.1 hj).1
    rw [List.length_take] at this
    omega
  rw [List.getElem?_take_of_lt hjk] at hj
  have h3 : (ws.map (·.1)).Nodup := by
    rw [List.map_append] at h2
    exact (List.nodup_append.1 h2).2.1
  have := nodup_eq h3 (show (ws.map (·.1))[j]? = some f.1 by rw [List.getElem?_map, hj, Option.map_some, e]) (show (ws.map (·.1))[k]? = some f.1 by rw [List.getElem?_map, hf]; rfl)
  omega
/-- What is left in the end is what was there before. -/
theorem rest_end {gs fs ws : List (ByteArray × AFile)} (hp : gs.Perm (fs ++ ws)) (h1 : rises (gs.map (·.1))) (h2 : rises (fs.map (·.1))) : rest gs ws = fs := by
  have hn : (gs.map (·.1)).Nodup := rises_nodup h1
  have h3 : ((fs ++ ws).map (·.1)).Nodup := (hp.map _).nodup_iff.1 hn
  refine rises_eq ?_ (h1.sublist ((rest_sub gs ws).map _)) h2
  have := hp.filter (fun g => ws.all fun x => decide (¬ g.1 = x.1))
  unfold rest
  refine this.trans ?_
  rw [List.filter_append]
  have e1 : fs.filter (fun g => ws.all fun x => decide (¬ g.1 = x.1)) = fs := by
    rw [List.filter_eq_self]
    intro g hg
    rw [rest_iff]
    intro hm
    rw [List.map_append] at h3
    exact (List.nodup_append.1 h3).2.2 _ (List.mem_map_of_mem hg) _ hm rfl
  have e2 : ws.filter (fun g => ws.all fun x => decide (¬ g.1 = x.1)) = [] := by
    rw [List.filter_eq_nil_iff]
    intro g hg
    rw [rest_iff]
    exact fun h => h (List.mem_map_of_mem hg)
  rw [e1, e2, List.append_nil]

/-- What stands when a file has been found: its copy. -/
def Found (w wr : World) (f : ByteArray × AFile) (v7 v8 : Value) (wd : World) : Prop := ∃ T Af cf, v7 = .pointer (some ⟨T, 0, none⟩) ∧ v8 = .bool true ∧ Keep Nil wr wd ∧ Blk wd T 55 #[.string f.1, .bool f.2.done, .slice Af f.2.blocks.length cf] ∧ FsAt wd (fun b => w.heap.size ≤ b) (.slice Af f.2.blocks.length cf) f.2.blocks ∧ wr.heap.size ≤ T

/-- What stands of Made when k files have been found. -/
structure MdInv (w wr : World) (T d p k : Nat) (block : Int) (v : Value) (now : List (ByteArray × AFile)) : Prop where mk ::
  keep : Keep Nil w wr
  room : Blk wr w.heap.size 35 #[.pointer (some ⟨d, 0, none⟩), .pointer (some ⟨p, 0, none⟩), .pointer (some ⟨k, 0, none⟩), .int .i64 block, v]
  now : ∃ A c, Blk wr T 28 #[.int .i64 block, .slice A now.length c] ∧ FlAt wr (fun b => w.heap.size ≤ b) (.slice A now.length c) now
  lt : w.heap.size < T

set_option maxRecDepth 100000 in
set_option maxHeartbeats 4000000 in
theorem made_true (d p lk k : Nat) (of : Option Nat) (D : DSt) (R : DRep) (F H H2 : Nat → Prop) (S : PSt) (v vw : Value) (fs wants : List (ByteArray × AFile)) (w : World) (hd : DiskAt w F d D R) (hp : PurseAt w p lk of S) (hs : StAt w H (.agg #[.int .i64 D.block, v]) D.block fs) (hw : FlAt w H2 vw wants)
    (hpm : D.files.Perm (fs ++ wants)) (hr : rises (fs.map (·.1))) (hn : ∀ f ∈ D.files, f.1.size ≤ 32) (h8 : Bytes D.files) (hl : Few D.files) (hz : S.hand + S.parts = 0) :
    Calls Tryz.prog 21 #[.agg #[.pointer (some ⟨d, 0, none⟩), .pointer (some ⟨p, 0, none⟩), .pointer (some ⟨k, 0, none⟩), .int .i64 D.block, v], vw] w (KeptPost w p lk of S) := by
  obtain ⟨u, e0, hfl⟩ := hs.out
  obtain rfl : v = u := by injection e0 with e0; injection e0 with e0; injection e0 with _ e0; injection e0
  obtain ⟨A, c, rfl⟩ := hfl.form
  obtain ⟨Aw, cw, rfl⟩ := hw.form
  have hlf : (fs ++ wants).length = D.files.length := hpm.length_eq.symm
  have hlw : wants.length ≤ 1099511627776 := by have := hl.1; rw [List.length_append] at hlf; omega
  obtain ⟨W, hW⟩ : ∃ W, W = w.alloc (.cells #[.pointer (some ⟨d, 0, none⟩), .pointer (some ⟨p, 0, none⟩), .pointer (some ⟨k, 0, none⟩), .int .i64 D.block, .slice A fs.length c] 35) := ⟨_, rfl⟩
  have kW : Keep Nil w W := by rw [hW]; exact (Keep.refl Nil w).alloc _
  have b1 : Blk W w.heap.size 35 #[.pointer (some ⟨d, 0, none⟩), .pointer (some ⟨p, 0, none⟩), .pointer (some ⟨k, 0, none⟩), .int .i64 D.block, .slice A fs.length c] := by rw [hW]; exact Blk.new w _ _
  have c0 : W.cell? ⟨w.heap.size, 0, none⟩ = some (.pointer (some ⟨d, 0, none⟩)) := b1.at_ 0
  have hst := Hid.intro_ (dstate_any d D R F W (hd.nil kW) hn hl.1)
  have HS := Hid.intro_ hs
  have HP := Hid.intro_ hp
  have HW := Hid.intro_ hw
  have HD := Hid.intro_ hd
  have KW := Hid.intro_ kW
  have B1 := Hid.intro_ b1
  have HPM := Hid.intro_ hpm
  have HR := Hid.intro_ hr
  have HN := Hid.intro_ hd.ok.names
  have H8 := Hid.intro_ h8
  have HL := Hid.intro_ hl
  clear hd hp hs hfl hpm hr hn e0 kW hw b1 h8 hl hlf
  go_enter Tryz.func21, Tryz.ntmps21
  go_wp2_with fail
  rw [← hW]
  refine hst.out.mono ?_
  rintro e w1 ⟨v1, gs, rfl, hgp, hgr, hsv, k1⟩
  obtain ⟨u1, rfl, hf1⟩ := hsv.out
  obtain ⟨A1, cc1, rfl⟩ := hf1.form
  have HF1 := Hid.intro_ hf1
  have HGP := Hid.intro_ hgp
  have HGR := Hid.intro_ hgr
  have K1 := Hid.intro_ k1
  have hI0 : Hid (MdInv w (w1.alloc (.cells #[.int .i64 D.block, .slice A1 gs.length cc1] 28)) w1.heap.size d p k D.block (.slice A fs.length c) (rest gs (wants.take 0))) := by
    rw [List.take_zero, rest_nil]
    have ka := (Keep.refl Nil w1).alloc (.cells #[.int .i64 D.block, .slice A1 gs.length cc1] 28)
    refine ⟨(KW.out.then_ k1).then_ ka, (B1.out.keep k1 (fun h => h)).keep ka (fun h => h), ⟨A1, cc1, Blk.new w1 _ _, (hf1.mono (fun b hb _ => ?_)).nil ka⟩, ?_⟩
    · have := KW.out.size; exact Nat.le_trans this hb
    · have := (B1.out.keep k1 (fun h => h)).lt; omega
  have hgn := Hid.intro_ (rises_nodup hgr)
  have hgl : gs.length ≤ 1099511627776 := by have := hgp.length_eq; have := HL.out.1; omega
  have H8G : Hid (Bytes gs) := fun f hf => H8.out f (hgp.mem_iff.1 hf)
  have HLG : Hid (Few gs) := ⟨hgl, fun f hf => HL.out.2 f (hgp.mem_iff.1 hf)⟩
  have HGF := Hid.intro_ (hgp.trans HPM.out)
  clear hW hgp hgr hsv hf1 hst k1 c0
  go_wp2_with fail
  go_loopw [6] (fun j wr => ∃ q : Nat, q ≤ wants.length ∧ j = .int .i64 q ∧ Hid (MdInv w wr w1.heap.size d p k D.block (.slice A fs.length c) (rest gs (wants.take q)))) (fun j _ => wants.length - (intOf j).toNat)
  case atStart => exact ⟨0, Nat.zero_le _, rfl, hI0⟩
  case round =>
    obtain ⟨q, hq, rfl, HI⟩ := hrel
    obtain ⟨kk, br, ⟨An, cn, bn, hfn⟩, hlT⟩ := HI.out
    obtain ⟨N, hN⟩ : ∃ N, N = (rest gs (wants.take q)).length := ⟨_, rfl⟩
    have hNl : N ≤ 1099511627776 := by rw [hN]; exact Nat.le_trans (rest_sub gs _).length_le hgl
    have hRN : Hid (((rest gs (wants.take q)).map (·.1)).Nodup) := hgn.out.sublist ((rest_sub gs _).map _)
    by_cases hlt : q < wants.length
    · obtain ⟨f, hf'⟩ : ∃ f', wants[q]? = some f' := ⟨_, List.getElem?_eq_getElem hlt⟩
      have hfm := rest_mem HGF.out hgn.out hf'
      obtain ⟨i, hi⟩ := List.mem_iff_getElem?.1 hfm
      obtain ⟨g, o, Ar, cr, rfl, p0, p1, p2, hfs⟩ := (HW.out.nil kk).get hf'
      have hfi : ∀ W', Keep Nil wr W' → Calls Tryz.prog 16 #[.agg #[.int .i64 D.block, .slice An (rest gs (wants.take q)).length cn], .string f.1] W' (FindPost W' (fun b => w.heap.size ≤ b) f) := fun W' k' => find_true _ _ D.block _ i f W' ⟨_, rfl, hfn.nil k'⟩ hi hRN.out (by rw [← hN]; exact hNl)
      have HFI := Hid.intro_ hfi
      clear hfi
      have t0 : wr.cell? ⟨w1.heap.size, 0, none⟩ = some (.int .i64 D.block) := bn.at_ 0
      have t1 : wr.cell? ⟨w1.heap.size, 1, none⟩ = some (.slice An (rest gs (wants.take q)).length cn) := bn.at_ 1
      rw [← hN] at t1 HFI
      have HFN := Hid.intro_ hfn
      have BN := Hid.intro_ bn
      have KK := Hid.intro_ kk
      have HF := Hid.intro_ hf'
      have HFS := Hid.intro_ hfs
      have P0 := Hid.intro_ p0
      have HFM := Hid.intro_ hfm
      have BR := Hid.intro_ br
      have HNN := Hid.intro_ hN
      have hk0 : 0 ≤ (q : Int) := by omega
      have hk1 : (q : Int) < (wants.length : Int) := by omega
      have h8f : Hid (∀ b ∈ f.2.blocks, ∀ x ∈ b, 0 ≤ x ∧ x ≤ 255) := H8G.out f ((rest_sub gs _).mem hfm)
      have hlf : f.2.blocks.length ≤ 1099511627776 := HLG.out.2 f ((rest_sub gs _).mem hfm)
      clear hfn bn kk hf' hfs hfm br hi hN
      go_wp2_with fail
      go_cut [7, 8, 9, 10, 11] from 7 to 27 (fun v7 v8 v9 v10 v11 wd => Found w wr f v7 v8 wd ∧ v9 = .pointer (some ⟨w.heap.size, 0, none⟩) ∧ v10 = .pointer (some ⟨d, 0, none⟩) ∧ v11 = .agg #[.int .i64 D.block, .slice A1 gs.length cc1])
      case first =>
        have e0 := World.new_ne wr _ t0
        have e1 := World.new_ne wr _ t1
        have e2 := World.new_ne wr _ p0
        simp only at e0 e1 e2
        go_region_held3 (fun w' => w'.cell? ⟨w1.heap.size, 0, none⟩ = some (.int .i64 D.block) ∧ w'.cell? ⟨w1.heap.size, 1, none⟩ = some (.slice An N cn) ∧ w'.cell? ⟨g, o + q * 3, none⟩ = some (.string f.1))
          (first | exact ⟨t0, t1, p0⟩ | exact hS2.out | go_keep)
          (first
            | (go_at_call 16; refine (HFI.out _ ((Keep.refl Nil wr).drew)).mono ?_; rintro e w2 ⟨Af, cf, rfl, hfs2, k2⟩
               have kz := (Keep.refl Nil wr).drew.then_ k2
               have t0' := cell_keep t0 kz (fun h => h)
               have t1' := cell_keep t1 kz (fun h => h)
               have p0' := cell_keep p0 kz (fun h => h)
               have e0' := World.new_ne w2 _ t0'
               have e1' := World.new_ne w2 _ t1'
               have e2' := World.new_ne w2 _ p0'
               simp only at e0' e1' e2'
               have hS2 := Hid.intro_ (And.intro t0' (And.intro t1' p0'))
               have KZ := Hid.intro_ kz
               have HFS2 := Hid.intro_ hfs2
               clear hfs2 k2 kz)
            | (go_at_call 16; refine (HFI.out _ (((Keep.refl Nil wr).alloc _).drew)).mono ?_; rintro e w2 ⟨Af, cf, rfl, hfs2, k2⟩
               have kz := ((Keep.refl Nil wr).alloc (.cells #[.string ⟨#[]⟩, .bool false, .slice none 0 0] 55)).drew.then_ k2
               have t0' := cell_keep t0 kz (fun h => h)
               have t1' := cell_keep t1 kz (fun h => h)
               have p0' := cell_keep p0 kz (fun h => h)
               have bz := (Blk.new wr 55 #[.string ⟨#[]⟩, .bool false, .slice none 0 0]).drew.keep k2 (fun h => h)
               have z0 : w2.cell? ⟨wr.heap.size, 0, none⟩ = some (.string ⟨#[]⟩) := bz.at_ 0
               have z1 : w2.cell? ⟨wr.heap.size, 1, none⟩ = some (.bool false) := bz.at_ 1
               have z2 : w2.cell? ⟨wr.heap.size, 2, none⟩ = some (.slice none 0 0) := bz.at_ 2
               have zf0 := bz.fr 0
               have zf1 := bz.fr 1
               have zf2 := bz.fr 2
               have hS2 := Hid.intro_ (And.intro t0' (And.intro t1' p0'))
               have KZ := Hid.intro_ kz
               have HFS2 := Hid.intro_ hfs2
               have BZ := Hid.intro_ bz
               clear hfs2 k2 kz bz))
        all_goals
          go_wp2_with fail
          go_meet
          first
            | exact ⟨⟨w2.heap.size, Af, cf, rfl, rfl, KZ.out.alloc _, Blk.new w2 _ _, HFS2.out.nil ((Keep.refl Nil w2).alloc _), KZ.out.size⟩, rfl, rfl, rfl⟩
            | (have ks := (((Keep.refl (fun b => b = wr.heap.size) w2).setCell (p := ⟨wr.heap.size, 0, none⟩) (fun _ => rfl) (.string f.1)).setCell (p := ⟨wr.heap.size, 1, none⟩) (fun _ => rfl) (.bool f.2.done)).setCell (p := ⟨wr.heap.size, 2, none⟩) (fun _ => rfl) (.slice Af f.2.blocks.length cf)
               have hty : ∀ cs t fr, w2.heap[wr.heap.size]? = some (.cells cs t fr) → t = 55 := fun cs t fr hc => by
                 have hb := BZ.out
                 unfold Blk at hb
                 rw [hc] at hb
                 injection hb with hb
                 injection hb with _ hb
               exact ⟨⟨wr.heap.size, Af, cf, rfl, rfl, ((KZ.out.setCell (p := ⟨wr.heap.size, 0, none⟩) (fun h => absurd h (Nat.lt_irrefl _)) _).setCell (p := ⟨wr.heap.size, 1, none⟩) (fun h => absurd h (Nat.lt_irrefl _)) _).setCell (p := ⟨wr.heap.size, 2, none⟩) (fun h => absurd h (Nat.lt_irrefl _)) _, ((BZ.out.set_ 0 _).set_ 1 _).set_ 2 _,
                 HFS2.out.far ks (fun cs fr hc => absurd (hty cs _ fr hc) (by decide)) (fun cs fr hc => absurd (hty cs _ fr hc) (by decide)), Nat.le_refl _⟩, rfl, rfl, rfl⟩)
      case rest =>
        obtain ⟨X, rfl⟩ : ∃ X : World, X = wc := ⟨_, rfl⟩
        obtain ⟨⟨T, Af, cf, rfl, rfl, kX, bX, hfX0, hTl⟩, rfl, rfl, rfl⟩ := hcut
        have hfX := Hid.intro_ hfX0
        clear hfX0 t0 t1
        have z0 : X.cell? ⟨T, 0, none⟩ = some (.string f.1) := bX.at_ 0
        have z1 : X.cell? ⟨T, 1, none⟩ = some (.bool f.2.done) := bX.at_ 1
        have z2 : X.cell? ⟨T, 2, none⟩ = some (.slice Af f.2.blocks.length cf) := bX.at_ 2
        have y0 := cell_keep p0 kX (fun h => h)
        have y1 := cell_keep p1 kX (fun h => h)
        have y2 := cell_keep p2 kX (fun h => h)
        have HSF := Hid.intro_ (samefile_true _ _ (.slice Af f.2.blocks.length cf) (.slice Ar f.2.blocks.length cr) f X.drew (hfX.out.nil (Keep.refl Nil X).drew) (HFS.out.nil (kX.then_ (Keep.refl Nil X).drew)) h8f.out (by omega))
        have KX := Hid.intro_ kX
        clear p0 p1 p2 kX bX
        go_wp2_with fail
        go_still_tail 8, (by kernel_rfl)
        change wpList _ _ _ _ _ X.drew
        go_wp2_with fail
        refine HSF.out.mono ?_
        rintro e w3 ⟨rfl, k3⟩
        have kx3 := (Keep.refl Nil X).drew.then_ k3
        have kr3 := KX.out.then_ kx3
        have b3 := BN.out.keep kr3 (fun h => h)
        have t0 : w3.cell? ⟨w1.heap.size, 0, none⟩ = some (.int .i64 D.block) := b3.at_ 0
        have t1 : w3.cell? ⟨w1.heap.size, 1, none⟩ = some (.slice An N cn) := by rw [HNN.out]; exact b3.at_ 1
        have zf0 := b3.fr 0
        have zf1 := b3.fr 1
        have p0 := cell_keep P0.out kr3 (fun h => h)
        have HWO := Hid.intro_ (without_any (fun b => w.heap.size ≤ b) (.agg #[.int .i64 D.block, .slice An (rest gs (wants.take q)).length cn]) D.block (rest gs (wants.take q)) f.1 w3.drew ⟨_, rfl, HFN.out.nil (kr3.then_ (Keep.refl Nil w3).drew)⟩ (by rw [← HNN.out]; exact hNl))
        rw [← HNN.out] at HWO
        have B3 := Hid.intro_ b3
        have KR3 := Hid.intro_ kr3
        clear k3 kx3 kr3 b3 y0 y1 y2 z0 z1 z2
        go_wp2_with fail
        go_region_law (first
          | (go_simp; go_at_call 75; refine HWO.out.mono ?_; rintro e w4 ⟨v4, rfl, hst4, k4⟩
             obtain ⟨u4, rfl, hf4⟩ := hst4.out
             obtain ⟨A4, c4, rfl⟩ := hf4.form
             have b4 := B3.out.keep ((Keep.refl Nil w3).drew.then_ k4) (fun h => h)
             have t0' : ∃ u, w4.cell? ⟨w1.heap.size, 0, none⟩ = some u := ⟨_, b4.at_ 0⟩
             have t1' : ∃ u, w4.cell? ⟨w1.heap.size, 1, none⟩ = some u := ⟨_, b4.at_ 1⟩
             obtain ⟨u0, t0'⟩ := t0'
             obtain ⟨u1, t1'⟩ := t1'
             have zg0 := b4.fr 0
             have zg1 := b4.fr 1
             have HF4 := Hid.intro_ hf4
             have B4 := Hid.intro_ b4
             have K4 := Hid.intro_ k4
             clear hst4 hf4 b4 k4))
        all_goals
          have hfin : Hid (MdInv w ((w4.setCell ⟨w1.heap.size, 0, none⟩ (.int .i64 D.block)).setCell ⟨w1.heap.size, 1, none⟩ (.slice A4 (others f.1 (rest gs (wants.take q))).length c4)) w1.heap.size d p k D.block (.slice A fs.length c) (rest gs (wants.take (q + 1)))) := by
            have htk : wants.take (q + 1) = wants.take q ++ [f] := by rw [List.take_add_one, HF.out]; rfl
            rw [htk, ← rest_push]
            have kw4 := (Keep.refl Nil w3).drew.then_ K4.out
            have ks := ((Keep.refl (fun b => b = w1.heap.size) w4).setCell (p := ⟨w1.heap.size, 0, none⟩) (fun _ => rfl) (.int .i64 D.block)).setCell (p := ⟨w1.heap.size, 1, none⟩) (fun _ => rfl) (.slice A4 (others f.1 (rest gs (wants.take q))).length c4)
            have hsz := (KK.out.then_ (KR3.out.then_ (Keep.refl Nil w3).drew)).size
            refine ⟨(KK.out.then_ (KR3.out.then_ kw4)).trans ks (fun b hb e => ?_), ((BR.out.keep (KR3.out.then_ kw4) (fun h => h)).keep ks (fun e => ?_)), ⟨A4, c4, (B4.out.set_ 0 _).set_ 1 _, (HF4.out.mono (fun b hb _ => hb.elim (fun h => h) (fun h => Nat.le_trans hsz h))).far ks (fun cs t fr hc => ?_)⟩, hlT⟩
            · have : b = w1.heap.size := e
              omega
            · have : w.heap.size = w1.heap.size := e
              omega
            · have hb := B4.out
              unfold Blk at hb
              rw [hc] at hb
              injection hb with hb
              injection hb with _ hb
              subst hb
              exact ⟨by decide, by decide, by decide⟩
          go_wp2_with fail
          go_roundw
          case rel => exact ⟨q + 1, by omega, by go_num, hfin⟩
          case measure => simp [intOf]; omega
    · obtain rfl : q = wants.length := by omega
      have hre : rest gs (wants.take wants.length) = fs := by rw [List.take_length]; exact rest_end HGF.out HGR.out HR.out
      rw [hre] at hfn bn hN
      have t0 : wr.cell? ⟨w1.heap.size, 0, none⟩ = some (.int .i64 D.block) := bn.at_ 0
      have t1 : wr.cell? ⟨w1.heap.size, 1, none⟩ = some (.slice An fs.length cn) := bn.at_ 1
      have r1 : wr.cell? ⟨w.heap.size, 1, none⟩ = some (.pointer (some ⟨p, 0, none⟩)) := br.at_ 1
      have r3 : wr.cell? ⟨w.heap.size, 3, none⟩ = some (.int .i64 D.block) := br.at_ 3
      have r4 : wr.cell? ⟨w.heap.size, 4, none⟩ = some (.slice A fs.length c) := br.at_ 4
      have h8f : Bytes fs := fun f hf => H8G.out f (HGF.out.mem_iff.2 (List.mem_append_left _ hf))
      have hlf : Few fs := ⟨by rw [← hre]; exact Nat.le_trans (rest_sub gs _).length_le hgl, fun f hf => HLG.out.2 f (HGF.out.mem_iff.2 (List.mem_append_left _ hf))⟩
      have HSS := Hid.intro_ (samestate_true _ _ (.agg #[.int .i64 D.block, .slice An fs.length cn]) (.agg #[.int .i64 D.block, .slice A fs.length c]) D.block fs wr ⟨_, rfl, hfn⟩ (HS.out.nil kk) h8f hlf)
      have hp2 := HP.out.keep kk (fun h => h) (fun h => h)
      have HP2 := Hid.intro_ hp2
      have KK := Hid.intro_ kk
      have BR := Hid.intro_ br
      clear hfn bn kk br hre hp2 h8f hlf hN
      go_wp2_with (first
        | (go_at_call 63; refine HSS.out.mono ?_; rintro e w5 ⟨rfl, k5⟩
           have r1' : w5.cell? ⟨w.heap.size, 1, none⟩ = some (.pointer (some ⟨p, 0, none⟩)) := cell_keep r1 k5 (fun h => h)
           have HU := Hid.intro_ (used_any p lk of S w5 (HP2.out.keep k5 (fun h => h) (fun h => h))))
        | (go_at_call 64; refine HU.out.mono ?_; rintro e w6 ⟨rfl, hp6, k6⟩))
      go_ret
      exact ⟨rfl, hp6, ((KK.out.then_ k5).mono (fun _ _ h => h.elim)).trans k6 (fun _ _ h => h)⟩
end Go.Proofs.YtadipinnbehhhaaGreatDoor
namespace Go.Proofs.YtadipinnbehhhaaGreatDoor
open Go.RowKit

section
variable {c : Cx} {w w' : World} {G : Nat → Prop} {s : RSt} {H H2 : Nat → Prop} {v vw : Value} {fs gs wants : List (ByteArray × AFile)}

theorem used_rm (h : RmAt c w G s) : Calls Tryz.prog 64 #[.pointer (some ⟨c.p, 0, none⟩)] w fun e w' => e = .returned (.int .i64 (s.S.hand + s.S.parts)) ∧ RmTo c G s w w' := by
  obtain ⟨F, rfl, hd⟩ := h.out
  exact (used_any c.p c.lk c.of s.S w hd.purse).mono fun _ _ ⟨he, ht, k⟩ => ⟨he, h.step (hd.at_purse ht k) rfl⟩
theorem room_k (h : RmAt c w G s) : Calls Tryz.prog 61 #[.pointer (some ⟨c.k, 0, none⟩)] w fun e w' => e = .returned (.int .i64 c.K) ∧ w' = w := k_any c.k _ _ c.K s.next w h.desk
/-- The state of a room. -/
theorem state_rm (h : RmAt c w G s) (hc : Calm s.D c.block gs) (hn : ∀ f ∈ gs, f.1.size ≤ 32) (hl : gs.length ≤ 1099511627776) : Calls Tryz.prog 17 #[.pointer (some ⟨c.d, 0, none⟩)] w (StatePost w s.D) := by
  obtain ⟨F, rfl, hd⟩ := h.out
  obtain ⟨R, hD⟩ := hd.disk
  exact dstate_any c.d s.D R F w hD (by rw [hc.files]; exact hn) (by rw [hc.files]; exact hl)
theorem kept_rm (h : RmAt c w G s) (hs : StAt w H (.agg #[.int .i64 c.block, v]) c.block fs) (hc : Calm s.D c.block gs) (hp : gs.Perm fs) (hr : rises (fs.map (·.1))) (hn : ∀ f ∈ gs, f.1.size ≤ 32) (h8 : Bytes fs) (hl : Few fs) (hz : s.S.hand + s.S.parts = 0) :
    Calls Tryz.prog 14 #[.agg #[.pointer (some ⟨c.d, 0, none⟩), .pointer (some ⟨c.p, 0, none⟩), .pointer (some ⟨c.k, 0, none⟩), .int .i64 c.block, v]] w fun e w' => e = .returned (.bool true) ∧ RmTo c G s w w' := by
  obtain ⟨F, rfl, hd⟩ := h.out
  obtain ⟨R, hD⟩ := hd.disk
  have := kept_true c.d c.p c.lk c.k c.of s.D R F H s.S v fs w hD hd.purse (by rw [h.blk]; exact hs) (by rw [hc.files]; exact hp) hr (by rw [hc.files]; exact hn) h8 hl hz
  rw [h.blk] at this
  exact this.mono fun _ _ t => ⟨t.ret, h.step (hd.at_purse t.purse t.keep) rfl⟩
theorem made_rm (h : RmAt c w G s) (hs : StAt w H (.agg #[.int .i64 c.block, v]) c.block fs) (hw : FlAt w H2 vw wants) (hc : Calm s.D c.block gs) (hp : gs.Perm (fs ++ wants)) (hr : rises (fs.map (·.1))) (hn : ∀ f ∈ gs, f.1.size ≤ 32) (h8 : Bytes gs) (hl : Few gs) (hz : s.S.hand + s.S.parts = 0) :
    Calls Tryz.prog 21 #[.agg #[.pointer (some ⟨c.d, 0, none⟩), .pointer (some ⟨c.p, 0, none⟩), .pointer (some ⟨c.k, 0, none⟩), .int .i64 c.block, v], vw] w fun e w' => e = .returned (.bool true) ∧ RmTo c G s w w' := by
  obtain ⟨F, rfl, hd⟩ := h.out
  obtain ⟨R, hD⟩ := hd.disk
  have := made_true c.d c.p c.lk c.k c.of s.D R F H H2 s.S v vw fs wants w hD hd.purse (by rw [h.blk]; exact hs) hw (by rw [hc.files]; exact hp) hr (by rw [hc.files]; exact hn) (by rw [hc.files]; exact h8) (by rw [hc.files]; exact hl) hz
  rw [h.blk] at this
  exact this.mono fun _ _ t => ⟨t.ret, h.step (hd.at_purse t.purse t.keep) rfl⟩
/-- The room of a builder. -/
theorem BldAt.rm {bb b : Nat} {x : WSt} {y : BSt} (h : BldAt c w bb b G s x y) : ∃ G0, RmAt c w G0 s ∧ (∀ z, G0 z → G z) ∧ ∀ s' w', RmTo c G0 s' w w' → BldTo c bb b G s' x y w w' := by
  obtain ⟨G1, h1, g1, v1⟩ := h.via
  obtain ⟨G0, h0, g0, v0⟩ := h1.via
  exact ⟨G0, h0, fun z hz => g1 z (g0 z hz), fun s' w' t => v1 _ _ _ (v0 _ _ t)⟩
end
end Go.Proofs.YtadipinnbehhhaaGreatDoor
namespace Go.Proofs.YtadipinnbehhhaaGreatDoor
open Go.RowKit

/-- What stands of add. -/
def AddMo (E : Nat → Addr) (G : Nat → Prop) (g base : Nat) (w : World) (r : Int × Int × Mo) (e : Ending) (w' : World) : Prop := e = .returned (.tuple #[.int .u64 r.1, .int .i64 r.2.1]) ∧ MoTo E G g base r.2.2 w w'
/-- What stands of done. -/
def DoneMo (E : Nat → Addr) (G : Nat → Prop) (g base : Nat) (w : World) (r : Int × Mo) (e : Ending) (w' : World) : Prop := e = .returned (.int .i64 r.1) ∧ MoTo E G g base r.2 w w'

/-- What stands when the last record has been made. -/
def MadeRec (X : World) (vars root n : Nat) (v : Value) (wd : World) : Prop := ∃ T, v = .pointer (some ⟨T, 0, none⟩) ∧ Keep Nil X wd ∧ Blk wd T 111 #[.int .u64 18446744073709551615, .int .u64 vars, .int .u64 root, .int .u64 n]

section
variable (w : World) (E : Nat → Addr) (G : Nat → Prop) (g base : Nat) (m : Mo) (k9 level : Int) (low high root : Nat)

set_option maxRecDepth 100000 in
set_option maxHeartbeats 1000000 in
theorem moadd_early (h : MoAt w E G g base m) (hl : m.done = true ∨ (m.done = false ∧ (level < 0 ∨ (0 ≤ level ∧ (m.vars : Int) ≤ level)))) :
    Calls Tryz.prog 68 #[.pointer (some ⟨g, 0, none⟩), .agg #[.int .i64 k9, .int .i64 level, .int .u64 low, .int .u64 high]] w (AddMo E G g base w (moAdd m level low high)) := by
  obtain ⟨v, hb, ho, hv⟩ := h.out
  have c0 : w.cell? ⟨g, 0, none⟩ = some (.int .i64 m.vars) := hb.at_ 0
  have c5 : w.cell? ⟨g, 5, none⟩ = some (.bool m.done) := hb.at_ 5
  have lb := hb.lt
  have k0 := (Keep.refl Nil w).alloc (.cells #[.int .i64 k9, .int .i64 level, .int .u64 low, .int .u64 high] 52)
  have HO := Hid.intro_ ho
  clear hb ho hv
  rcases hl with hd | ⟨hd, hl⟩
  · have HX := Hid.intro_ (show moAdd m level low high = (0, 6, m) by unfold moAdd; rw [if_pos hd])
    rw [hd] at c5
    clear hd
    go_enter Tryz.func68, Tryz.ntmps68
    go_wp2
    go_ret2
    rw [HX.out]
    exact ⟨rfl, MoTo.of_nil h k0⟩
  · have HX := Hid.intro_ (show moAdd m level low high = (0, 3, m) by unfold moAdd; rw [if_neg (by simp [hd]), if_pos (by rcases hl with h | h; exact .inl h; exact .inr h.2)])
    rw [hd] at c5
    clear hd
    rcases hl with hl | ⟨hl0, hl⟩
    all_goals
      go_enter Tryz.func68, Tryz.ntmps68
      go_wp2_with fail
      go_quiet (fail)
      go_wp2
      go_ret2
      rw [HX.out]
      exact ⟨rfl, MoTo.of_nil h (k0.drewN _)⟩

set_option maxRecDepth 100000 in
set_option maxHeartbeats 4000000 in
theorem modone_any (h : MoAt w E G g base m) (he : Envs E w G) (hlt : ∀ b, G b → b < w.heap.size) (hlast : m.last.Ok) (hroot : root < 18446744073709551616) (hvars : m.vars ≤ 65536) (hn : m.recs.length ≤ 1099511627776) :
    Calls Tryz.prog 66 #[.pointer (some ⟨g, 0, none⟩), .int .u64 root] w (DoneMo E G g base w (moDone m root)) := by
  obtain ⟨v, hb, ho, hv⟩ := h.out
  obtain ⟨A, cp, rfl⟩ := own_form ho
  have c0 : w.cell? ⟨g, 0, none⟩ = some (.int .i64 m.vars) := hb.at_ 0
  have c1 : w.cell? ⟨g, 1, none⟩ = some (.int .u64 m.last.self) := hb.at_ 1
  have c4 : w.cell? ⟨g, 4, none⟩ = some (.bool m.any) := hb.at_ 4
  have c5 : w.cell? ⟨g, 5, none⟩ = some (.bool m.done) := hb.at_ 5
  have z5 := hb.fr 5
  have lb := hb.lt
  cases hd : m.done
  · have hspl := rsplit_t m.last.self hlast.a w
    have hX : moDone m root = if moBad m root = true then (71, m) else (0, { m with done := true, recs := m.recs ++ [⟨18446744073709551615, m.vars, root, m.recs.length⟩] }) := by
      unfold moDone; rw [if_neg (by simp [hd])]
    have HX := Hid.intro_ hX
    rw [hd] at c5
    have HR := Hid.intro_ hroot
    -- behind the test: the record is made, and put into the row
    have hend : ∀ W, Calls Tryz.prog 90 #[.agg #[.int .i64 m.vars, .int .u64 root, .int .i64 m.recs.length]] W fun e w' => e = .returned (.agg #[.int .u64 18446744073709551615, .int .u64 m.vars, .int .u64 root, .int .u64 m.recs.length]) ∧ Keep Nil W w' := fun W => end_any m.vars m.recs.length root (by omega) (by omega) W
    have HEND := Hid.intro_ hend
    have HO := Hid.intro_ ho
    have HB := Hid.intro_ hb
    have HV := Hid.intro_ hv
    obtain ⟨i1, hi1, hy0, hy1, hy2⟩ := info_parts info_rec
    obtain ⟨L, hL⟩ : ∃ L, L = sF root := ⟨_, rfl⟩
    generalize hI : sI m.last.self = I at *
    have HI := Hid.intro_ hI
    have HL := Hid.intro_ hL
    have HD := Hid.intro_ hd
    obtain ⟨n, hnn⟩ : ∃ n, n = m.recs.length := ⟨_, rfl⟩
    rw [← hnn] at HEND HO hn HB HV
    have HN := Hid.intro_ hnn
    clear hX hend hb ho hv hL hI hd hroot hnn hlast
    go_enter Tryz.func66, Tryz.ntmps66
    go_upto_region 3 with (fail)
    go_cut [5] from 5 to 21 (fun v wc => v = .bool L ∧ wc = w)
    case first =>
      by_cases h1 : root = 9223372036854775808
      · have q : ((root : Int) == 9223372036854775808) = true := by simp; omega
        have e := Hid.intro_ (show L = true by rw [HL.out, h1]; rfl)
        clear h1 HL
        go_wp2
        go_meet
        exact ⟨by rw [e.out], rfl⟩
      have q1 : ((root : Int) == 9223372036854775808) = false := by simp; omega
      have e := Hid.intro_ (show L = ((root : Int) == 9223372036854775809) by
        rw [HL.out]
        unfold sF
        rw [decide_eq_false h1, Bool.false_or, Bool.eq_iff_iff]
        simp
        omega)
      clear h1 HL
      go_wp2
      go_meet
      exact ⟨by rw [e.out], rfl⟩
    case rest =>
      obtain ⟨rfl, hw⟩ := hcut
      obtain rfl := hw.symm
      have hbad : moBad m root = if m.any then !decide (root = m.last.self) || !decide (I = 0) else !L := by
        unfold moBad
        rw [HI.out, HL.out]
      have HBD := Hid.intro_ hbad
      clear hbad
      go_upto_region 5 with (go_at_call 82; refine hspl.mono ?_; rintro e w' ⟨rfl, hw⟩; obtain rfl := hw.symm)
      go_cut [61] from 34 to 61 (fun v wc => v = .bool (moBad m root) ∧ wc = w)
      case first =>
        cases ha : m.any
        · have e := Hid.intro_ (show moBad m root = !L by rw [HBD.out, ha]; simp)
          rw [ha] at c4
          clear HBD ha
          cases L
          all_goals
            go_wp2
            go_meet
            exact ⟨by rw [e.out]; rfl, rfl⟩
        · have e := Hid.intro_ (show moBad m root = (!decide (root = m.last.self) || !decide (I = 0)) by rw [HBD.out, ha]; simp)
          rw [ha] at c4
          clear HBD ha
          by_cases h1 : root = m.last.self
          · have q1 : ((root : Int) != (m.last.self : Int)) = false := by rw [h1]; simp
            have e2 := Hid.intro_ (show moBad m root = (I != 0) by rw [e.out, decide_eq_true h1]; by_cases h : I = 0 <;> simp [h])
            clear h1 e
            go_wp2
            go_meet
            exact ⟨by rw [e2.out], rfl⟩
          · have q1 : ((root : Int) != (m.last.self : Int)) = true := by simp; omega
            have e2 := Hid.intro_ (show moBad m root = true by rw [e.out, decide_eq_false h1]; simp)
            clear h1 e
            go_wp2
            go_meet
            exact ⟨by rw [e2.out], rfl⟩
      case rest =>
        obtain ⟨rfl, hw2⟩ := hcut
        obtain rfl := hw2.symm
        cases hb : moBad m root
        · have HXX := Hid.intro_ (show moDone m root = (0, { m with done := true, recs := m.recs ++ [⟨18446744073709551615, m.vars, root, m.recs.length⟩] }) by rw [HX.out, if_neg (by rw [hb]; simp)])
          clear hb HX
          obtain ⟨X, hX⟩ : ∃ X, X = w.setCell ⟨g, 5, none⟩ (.bool true) := ⟨_, rfl⟩
          have bX : Blk X g 49 (moCells { m with done := true } (.slice A n cp)) := by rw [hX]; exact HB.out.set_ 5 _
          have kX : Keep (fun z => z = g) w X := by rw [hX]; exact (Keep.refl (fun z => z = g) w).setCell (p := ⟨g, 5, none⟩) (fun _ => rfl) _
          have hng : ∀ z, (Value.slice A n cp).ownBlock = some z → z ≠ g := fun z hz e => by
            obtain ⟨cur, hc⟩ := own_blk HO.out hz
            rw [e] at hc
            exact Blk.ne_ HB.out hc (by decide) rfl
          have oX := own_keep HO.out kX hng
          have x0 : X.cell? ⟨g, 0, none⟩ = some (.int .i64 m.vars) := bX.at_ 0
          have x6 : X.cell? ⟨g, 6, none⟩ = some (.slice A n cp) := bX.at_ 6
          have OX := Hid.intro_ oX
          have BX := Hid.intro_ bX
          have KX := Hid.intro_ kX
          have NG := Hid.intro_ hng
          clear c0 c1 c4 oX bX kX hng
          go_wp2_with fail
          rw [← hX]
          clear hX c5 z5
          go_cut [11] from 11 to 76 (fun v11 wd => MadeRec X m.vars root n v11 wd)
          case first =>
            have e0 := World.new_ne X _ x0
            have e6 := World.new_ne X _ x6
            simp only at e0 e6
            have hlX := BX.out.lt
            go_region_held3 (fun w' => w'.cell? ⟨g, 0, none⟩ = some (.int .i64 m.vars) ∧ w'.cell? ⟨g, 6, none⟩ = some (.slice A n cp))
              (first | exact ⟨x0, x6⟩ | exact hS2.out | go_keep)
              (first
                | (go_at_call 90; refine (HEND.out _).mono ?_; rintro e w2 ⟨rfl, k2⟩
                   have kz := (Keep.refl Nil X).drew.then_ k2
                   have x0' := cell_keep x0 kz (fun h => h)
                   have x6' := cell_keep x6 kz (fun h => h)
                   have e0' := World.new_ne w2 _ x0'
                   have e6' := World.new_ne w2 _ x6'
                   simp only at e0' e6'
                   have hS2 := Hid.intro_ (And.intro x0' x6')
                   have KZ := Hid.intro_ kz
                   clear k2 kz)
                | (go_at_call 90; refine (HEND.out _).mono ?_; rintro e w2 ⟨rfl, k2⟩
                   have kz := ((Keep.refl Nil X).alloc (.cells #[.int .u64 0, .int .u64 0, .int .u64 0, .int .u64 0] 111)).drew.then_ k2
                   have x0' := cell_keep x0 kz (fun h => h)
                   have x6' := cell_keep x6 kz (fun h => h)
                   have bz := (Blk.new X 111 #[.int .u64 0, .int .u64 0, .int .u64 0, .int .u64 0]).drew.keep k2 (fun h => h)
                   have z0 : w2.cell? ⟨X.heap.size, 0, none⟩ = some (.int .u64 0) := bz.at_ 0
                   have z1 : w2.cell? ⟨X.heap.size, 1, none⟩ = some (.int .u64 0) := bz.at_ 1
                   have z2 : w2.cell? ⟨X.heap.size, 2, none⟩ = some (.int .u64 0) := bz.at_ 2
                   have z3 : w2.cell? ⟨X.heap.size, 3, none⟩ = some (.int .u64 0) := bz.at_ 3
                   have zf0 := bz.fr 0
                   have zf1 := bz.fr 1
                   have zf2 := bz.fr 2
                   have zf3 := bz.fr 3
                   have hS2 := Hid.intro_ (And.intro x0' x6')
                   have KZ := Hid.intro_ kz
                   have BZ := Hid.intro_ bz
                   clear k2 kz bz))
            all_goals
              go_wp2_with fail
              go_meet
              first
                | exact ⟨w2.heap.size, rfl, KZ.out.alloc _, Blk.new w2 _ _⟩
                | exact ⟨X.heap.size, rfl, (((KZ.out.setCell (p := ⟨X.heap.size, 0, none⟩) (fun h => absurd h (Nat.lt_irrefl _)) _).setCell (p := ⟨X.heap.size, 1, none⟩) (fun h => absurd h (Nat.lt_irrefl _)) _).setCell (p := ⟨X.heap.size, 2, none⟩) (fun h => absurd h (Nat.lt_irrefl _)) _).setCell (p := ⟨X.heap.size, 3, none⟩) (fun h => absurd h (Nat.lt_irrefl _)) _, (((BZ.out.set_ 0 _).set_ 1 _).set_ 2 _).set_ 3 _⟩
          case rest =>
            obtain ⟨T, rfl, kT, bT⟩ := hcut
            obtain ⟨Y, rfl⟩ : ∃ Y : World, Y = wc := ⟨_, rfl⟩
            have y0 : Y.cell? ⟨T, 0, none⟩ = some (.int .u64 18446744073709551615) := bT.at_ 0
            have y1 : Y.cell? ⟨T, 1, none⟩ = some (.int .u64 m.vars) := bT.at_ 1
            have y2 : Y.cell? ⟨T, 2, none⟩ = some (.int .u64 root) := bT.at_ 2
            have y3 : Y.cell? ⟨T, 3, none⟩ = some (.int .u64 n) := bT.at_ 3
            have y6 := cell_keep x6 kT (fun h => h)
            have bY := BX.out.keep kT (fun h => h)
            have oY := own_keep OX.out kT (fun _ _ h => h)
            have lY := bY.lt
            have BY := Hid.intro_ bY
            have OY := Hid.intro_ oY
            have KT := Hid.intro_ kT
            clear x0 x6 bT bY oY kT
            go_wp2_with fail
            go_region_law (refine step_append_own rfl (.tmp 81) (.tmp 83) 47 rfl base 111 i1 (.agg #[.int .u64 0, .int .u64 0, .int .u64 0, .int .u64 0]) 4 32 Tryz.underlying47 hi1 hy0 hy1 hy2 rfl (by decide) (.slice A n cp) n (rcCells m.recs) (by simp [Act.eval]) (own_keep OY.out ((Keep.refl Nil Y).drew.alloc _) (fun g _ h => h)) ⟨Y.heap.size, 0, none⟩ 1 1 [.int .u64 18446744073709551615, .int .u64 m.vars, .int .u64 root, .int .u64 n] (by simp [Act.eval]) rfl (news_new (w := Y.drew) rfl) (by simp [Value.oneCell']) (by unfold maxLen; omega) (by omega) (by have := h.base; simp; omega) ?_; intro av cv w3 ho3 k3 hv3
                           have b3 := ((BY.out.drew).alloc (.cells #[.int .u64 18446744073709551615, .int .u64 m.vars, .int .u64 root, .int .u64 n] 111)).keep k3 (fun e => NG.out g e rfl)
                           have x3 : w3.cell? ⟨g, 6, none⟩ = some (.slice A n cp) := b3.at_ 6
                           have y3' := b3.fr 6)
            all_goals
              go_wp2_with fail
              go_ret
              rw [HXX.out]
              refine ⟨rfl, ?_⟩
              have kall := (((KX.out.mono (fun b _ hb => (.inl hb : Mine w g b))).trans KT.out (fun _ _ h => h.elim)).trans ((Keep.refl Nil Y).drew.alloc (.cells #[.int .u64 18446744073709551615, .int .u64 m.vars, .int .u64 root, .int .u64 n] 111)) (fun _ _ h => h.elim))
              have hfin := MoAt.push (v := (.slice A n cp)) (r := ⟨18446744073709551615, m.vars, root, n⟩) (m := { m with done := true }) he hlt h.off h.base kall (HB.out.at_ 6) ((BY.out.drew).alloc _) (by rw [← HN.out]; exact own_keep OY.out ((Keep.refl Nil Y).drew.alloc _) (fun g _ h => h)) HV.out (by rw [← HN.out]; exact ho3.out) k3 (by simpa using hv3.out)
              rw [← HN.out]
              exact hfin
        · have HXX := Hid.intro_ (show moDone m root = (71, m) by rw [HX.out, if_pos hb])
          clear hb HX
          go_wp2
          go_ret
          rw [HXX.out]
          exact ⟨rfl, MoTo.refl h⟩
  · have HX := Hid.intro_ (show moDone m root = (6, m) by unfold moDone; rw [if_pos hd])
    rw [hd] at c5
    clear hd hb ho hv
    go_enter Tryz.func66, Tryz.ntmps66
    go_wp2
    go_ret
    rw [HX.out]
    exact ⟨rfl, MoTo.refl h⟩
end
end Go.Proofs.YtadipinnbehhhaaGreatDoor
