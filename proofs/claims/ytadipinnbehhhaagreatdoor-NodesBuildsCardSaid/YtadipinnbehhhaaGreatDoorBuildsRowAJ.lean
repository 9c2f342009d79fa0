/- What a disk holds: State. The references' Find, Without. -/
import Derived.Test.YtadipinnbehhhaaGreatDoorBuildsRowAI
import Derived.Test.YtadipinnbehhhaaGreatDoorBuildsRowAH
namespace Go.Proofs.YtadipinnbehhhaaGreatDoor
open Go.RowKit Go.Maps Go.Sort

/-- What stands of State. -/
def StatePost (w : World) (D : DSt) (e : Ending) (w' : World) : Prop :=
  ∃ v gs, e = .returned v ∧ gs.Perm D.files ∧ rises (gs.map (·.1)) ∧ StAt w' (fun b => w.heap.size ≤ b) v D.block gs ∧ Keep Nil w w'

theorem info_file : (Tryz.prog.info? 55).map (fun i => (i.zero, i.size, i.bytes)) = some (some (.agg #[.string ⟨#[]⟩, .bool false, .slice none 0 0]), 3, 48) := by kernel_rfl

/-- What stands of State when k files have come. -/
structure SInv (w wr : World) (b0 : Nat) (block : Int) (done : List (ByteArray × AFile)) : Prop where mk ::
  keep : Keep Nil w wr
  res : Blk wr w.heap.size 28 #[.int .i64 0, .slice none 0 0]
  st : ∃ v, Blk wr (w.heap.size + 1) 28 #[.int .i64 block, v] ∧ OFl wr b0 (fun b => w.heap.size ≤ b) v done
/-- What stands of it in the midst of a file. -/
structure SIn (w wi : World) (b0 B : Nat) (block : Int) (done : List (ByteArray × AFile)) (s : ByteArray) (fd : Bool) (bl : List (List Int)) : Prop where mk ::
  keep : Keep Nil w wi
  res : Blk wi w.heap.size 28 #[.int .i64 0, .slice none 0 0]
  st : ∃ v, Blk wi (w.heap.size + 1) 28 #[.int .i64 block, v] ∧ OFl wi b0 (fun b => w.heap.size ≤ b ∧ b < B) v done ∧ ∀ g, v.ownBlock = some g → g < B
  box : ∃ u, Blk wi B 55 #[.string s, .bool fd, u] ∧ OFs wi B (fun b => B ≤ b) u bl
  lt : w.heap.size + 1 < B

theorem SIn.push {w wi w2 w2' w3 : World} {b0 B : Nat} {block : Int} {done : List (ByteArray × AFile)} {s : ByteArray} {fd : Bool} {bl : List (List Int)} {u v' x : Value} {bs : List Int} {vs0 : List Value}
    (h : SIn w wi b0 B block done s fd bl) (hv : Blk wi B 55 #[.string s, .bool fd, u]) (ho : wi.ownsRow B 161 1 u bl.length vs0)
    (hv0 : ∀ (j : Nat) (u : Value) (bs : List Int), vs0[j]? = some u → bl[j]? = some bs → BsAt wi (fun b => B ≤ b) u bs) (k2 : Keep Nil wi w2) (hb2 : BsAt w2 (fun b => wi.heap.size ≤ b) x bs) (k2' : Keep Nil w2 w2')
    (ho3 : w3.ownsRow B 161 1 v' (bl.length + 1) (vs0 ++ [x])) (k3 : Keep (fun b => u.ownBlock = some b) w2' w3) (hv3 : v'.ownBlock = u.ownBlock ∨ v'.ownBlock = some w2'.heap.size) :
    SIn w (w3.setCell ⟨B, 2, none⟩ v') b0 B block done s fd (bl ++ [bs]) := by
  obtain ⟨a1, a2, ⟨v, a3, a4, a5⟩, _, l1⟩ := h
  have hg := hv.lt
  have kk := k2.then_ k2'
  have hvg : ∀ b, u.ownBlock = some b → B ≤ b := fun b hb => own_base ho hb
  have nvg : ¬ u.ownBlock = some B := fun e => by
    obtain ⟨cur, hc⟩ := own_blk ho e
    exact Blk.ne_ hv hc (by decide) rfl
  have nvg' : ¬ v'.ownBlock = some B := fun e => by
    rcases hv3 with h3 | h3
    · exact nvg (by rw [← h3]; exact e)
    · rw [h3] at e; injection e with e; have := kk.size; omega
  have K : Keep (fun b => B ≤ b) wi (w3.setCell ⟨B, 2, none⟩ v') := ((kk.mono (fun _ _ h => h.elim)).trans (k3.mono (fun b _ hb => hvg b hb)) (fun _ _ h => h)).setCell (p := ⟨B, 2, none⟩) (fun _ => Nat.le_refl _) _
  have low : ∀ b, b < B → ¬ (B ≤ b) := fun b hb => by omega
  refine ⟨a1.trans K (fun b hb e => by omega), a2.keep K (low _ (by omega)), ⟨v, a3.keep K (low _ l1), a4.keep K (fun g hg => low _ (a5 g hg)) (fun b hb _ => low b hb.2), a5⟩, ⟨v', ?_, ?_⟩, l1⟩
  · exact ((hv.keep kk (fun h => h)).keep k3 nvg).set_ 2 v'
  · have hw3 : OFs w3 B (fun b => B ≤ b) v' (bl ++ [bs]) := by
      refine OFs.push (w1 := w2') (vs := vs0) (v := u) (fun j u bs hu hb => (hv0 j u bs hu hb).nil kk) (by simpa using ho.1) ((hb2.nil k2').mono (fun b hb _ => by omega)) ho3 k3 (fun y hy cs fr hc => ?_)
      obtain ⟨cur, hc2⟩ := own_blk ho hy
      have h1 := hc2.keep kk (fun h => h)
      unfold Blk at h1
      rw [hc] at h1
      injection h1 with h1
      injection h1 with _ h1
      exact absurd h1 (by decide)
    obtain ⟨vs1, o1, o2⟩ := hw3.out
    refine ⟨vs1, own_keep o1 ((Keep.refl (fun b => b = B) w3).setCell (p := ⟨B, 2, none⟩) (fun _ => rfl) _) (fun y hy e => nvg' (by rw [← show y = B from e]; exact hy)), fun j u bs hu hb => ?_⟩
    refine (o2 j u bs hu hb).far (g := B) ((Keep.refl (fun b => b = B) w3).setCell (p := ⟨B, 2, none⟩) (fun _ => rfl) _) (fun cs fr hc => ?_)
    have h1 := (hv.keep kk (fun h => h)).keep k3 nvg
    unfold Blk at h1
    rw [hc] at h1
    injection h1 with h1
    injection h1 with _ h1
    exact absurd h1 (by decide)

theorem own_form {w : World} {base : Nat} {e : TypeId} {size n : Nat} {v : Value} {xs : List Value} (h : w.ownsRow base e size v n xs) : ∃ A c, v = .slice A n c := by
  rcases h.2 with ⟨e, h0⟩ | ⟨g, cap, cur, e, _⟩
  · exact ⟨none, 0, by rw [e, h0]⟩
  · exact ⟨_, _, e⟩

theorem own_at {w : World} {base n c j : Nat} {e : TypeId} {A : Option Addr} {u : Value} {xs : List Value} (h : w.ownsRow base e 1 (.slice A n c) n xs) (hj : xs[j]? = some u) : ∃ g, A = some ⟨g, 0, none⟩ ∧ w.cell? ⟨g, j, none⟩ = some u := by
  obtain ⟨ad, e, hc⟩ := own_rd h j u hj
  rcases h.2 with ⟨e2, h0⟩ | ⟨g, cap, cur, e2, _⟩
  · injection e2 with e2; rw [e] at e2; cases e2
  · injection e2 with e2
    rw [e] at e2
    injection e2 with e2
    subst e2
    rw [add_at, Nat.zero_add] at hc
    exact ⟨g, e, hc⟩

theorem SIn.done {w wi w1 : World} {b0 B : Nat} {block : Int} {done : List (ByteArray × AFile)} {f : ByteArray × AFile} {v v' u : Value} {rs : List Value} {o : Obj} (hb0 : w.heap.size ≤ b0) (h : SIn w wi b0 B block done f.1 f.2.done f.2.blocks)
    (hv : Blk wi (w.heap.size + 1) 28 #[.int .i64 block, v]) (hrl : rs.length = done.length) (ho : wi.ownsRow b0 55 3 v done.length (fileCells done rs))
    (hve : ∀ (j : Nat) (r : Value) (f : ByteArray × AFile), rs[j]? = some r → done[j]? = some f → FsAt wi (fun b => w.heap.size ≤ b ∧ b < B) r f.2.blocks) (hof : OFs wi B (fun b => B ≤ b) u f.2.blocks)
    (ho1 : w1.ownsRow b0 55 3 v' (done.length + 1) (fileCells done rs ++ [.string f.1, .bool f.2.done, u])) (k1 : Keep (fun b => v.ownBlock = some b) (wi.alloc o) w1) (hv1 : v'.ownBlock = v.ownBlock ∨ v'.ownBlock = some (wi.alloc o).heap.size) :
    SInv w (w1.setCell ⟨w.heap.size + 1, 1, none⟩ v') b0 block (done ++ [f]) := by
  obtain ⟨a1, a2, _, _, l1⟩ := h
  have ka := (Keep.refl Nil wi).alloc o
  have hvg : ∀ b, v.ownBlock = some b → w.heap.size ≤ b := fun b hb => Nat.le_trans hb0 (own_base ho hb)
  have nst : ∀ {b : Nat} {cs : Array Value}, Blk wi b 28 cs → ¬ v.ownBlock = some b := fun hb e => by
    obtain ⟨cur, hc⟩ := own_blk ho e
    exact Blk.ne_ hb hc (by decide) rfl
  have nst' : ∀ {b : Nat} {cs : Array Value}, Blk wi b 28 cs → ¬ v'.ownBlock = some b := fun {b cs} hb e => by
    rcases hv1 with h3 | h3
    · exact nst hb (by rw [← h3]; exact e)
    · rw [h3] at e; injection e with e; have := ka.size; have := hb.lt; omega
  have kw1 : Keep (fun b => v.ownBlock = some b) wi w1 := (ka.mono (fun _ _ h => h.elim)).then_ k1
  have ks := (Keep.refl (fun b => b = w.heap.size + 1) w1).setCell (p := ⟨w.heap.size + 1, 1, none⟩) (fun _ => rfl) v'
  refine ⟨?_, ?_, v', ?_, ?_⟩
  · refine (a1.trans kw1 (fun b hb e => by have := hvg b e; omega)).trans ks (fun b hb e => by have : b = w.heap.size + 1 := e; omega)
  · exact (a2.keep kw1 (nst a2)).keep ks (fun e => by have : w.heap.size = w.heap.size + 1 := e; omega)
  · exact (hv.keep kw1 (nst hv)).set_ 1 v'
  · have hpush : OFl w1 b0 (fun b => w.heap.size ≤ b) v' (done ++ [f]) := by
      refine OFl.push (w1 := wi.alloc o) (rs := rs) (v := v) (fun j r f hr hf => ((hve j r f hr hf).nil ka).mono (fun b hb _ => hb.1)) hrl (own_keep ho ka (fun _ _ h => h)) ?_ ho1 k1
      refine ((hof.fs (fun g hg => ?_)).nil ka).mono (fun b hb _ => by omega)
      obtain ⟨vs, hoo, _⟩ := hof.out
      exact own_base hoo hg
    have hst1 := hv.keep kw1 (nst hv)
    obtain ⟨rs1, g1, g2, g3⟩ := hpush.out
    refine ⟨rs1, g1, own_keep g2 ks (fun g hg e => nst' hv (by rw [← show g = w.heap.size + 1 from e]; exact hg)), fun j r f hr hf => ?_⟩
    refine (g3 j r f hr hf).far (g := w.heap.size + 1) ks (fun cs fr hc => ?_) (fun cs fr hc => ?_)
    · unfold Blk at hst1; rw [hc] at hst1; injection hst1 with hst1; injection hst1 with _ hst1; exact absurd hst1 (by decide)
    · unfold Blk at hst1; rw [hc] at hst1; injection hst1 with hst1; injection hst1 with _ hst1; exact absurd hst1 (by decide)

/-- A row of names reads as names. -/
theorem names_at {w : World} {base : Nat} {v : Value} {T : List (List UInt8)} (ho : w.ownsRow base 9 1 v T.length (T.map encStr)) : ∃ A c, v = .slice A T.length c ∧ ∀ j t, T[j]? = some t → ∃ g, A = some ⟨g, 0, none⟩ ∧ w.cell? ⟨g, j, none⟩ = some (.string ⟨t.toArray⟩) := by
  have hr := ho
  rcases ho.2 with ⟨e, h0⟩ | ⟨g, cap, cur, e, hb, hh, hle, hm, hs, ht⟩
  · subst e
    refine ⟨none, 0, by rw [h0], fun j t hj => ?_⟩
    have := (List.getElem?_eq_some_iff.1 hj).1
    omega
  · subst e
    refine ⟨some ⟨g, 0, none⟩, cap, rfl, fun j t hj => ⟨g, rfl, ?_⟩⟩
    obtain ⟨ad, e, hc⟩ := own_rd hr j (encStr t) (by rw [List.getElem?_map, hj]; rfl)
    injection e with e
    subst e
    rw [add_at, Nat.zero_add] at hc
    exact hc

theorem fpos_at {s : ByteArray} : ∀ {fs : List (ByteArray × AFile)} {i : Nat} {f : AFile}, (fs.map (·.1)).Nodup → fs[i]? = some (s, f) → fpos s fs = some (i, f)
  | [], _, _, _, h => by simp at h
  | (k, g) :: fs, 0, f, _, h => by
    simp only [List.getElem?_cons_zero, Option.some.injEq, Prod.mk.injEq] at h
    obtain ⟨rfl, rfl⟩ := h
    unfold fpos
    rw [if_pos rfl]
  | (k, g) :: fs, i + 1, f, hn, h => by
    simp only [List.map_cons, List.nodup_cons] at hn
    have ih := fpos_at hn.2 (show fs[i]? = some (s, f) by simpa using h)
    have hne : ¬ s = k := by
      rintro rfl
      exact hn.1 (List.mem_map.2 ⟨_, List.mem_of_getElem? (show fs[i]? = some (s, f) by simpa using h), rfl⟩)
    unfold fpos
    rw [if_neg hne, ih]
    rfl

theorem links_names : ∀ (fs : List (ByteArray × AFile)) (rs : List (Nat × Value)), rs.length = fs.length → (links fs rs).map (·.1) = fs.map (·.1)
  | [], [], _ => rfl
  | f :: fs, r :: rs, h => by
    have := links_names fs rs (by simpa using h)
    show f.1 :: (links fs rs).map (·.1) = _
    rw [this]
    rfl

/-- Sorted names, no two the same: they rise, and are the files' in another order. -/
theorem sorted_files {fs : List (ByteArray × AFile)} {ss : List (List UInt8)} (hp : ss.Perm (fs.map fun p => p.1.data.toList)) (hn : (fs.map (·.1)).Nodup) :
    ∃ gs : List (ByteArray × AFile), gs.Perm fs ∧ rises (gs.map (·.1)) ∧ gs.map (fun p => p.1.data.toList) = ss.mergeSort leB := by
  have hT : (ss.mergeSort leB).Perm (fs.map fun p => p.1.data.toList) := (List.mergeSort_perm ss leB).trans hp
  obtain ⟨gs, h1, h2⟩ := perm_map_ex (fun p : ByteArray × AFile => p.1.data.toList) hT rfl
  refine ⟨gs, h1, ?_, h2⟩
  have hs : (ss.mergeSort leB).Pairwise (fun a b => leB a b = true) := List.pairwise_mergeSort (fun a b c h1 h2 => by simp only [leB, decide_eq_true_eq] at *; exact List.le_trans h1 h2) (fun a b => by simp only [leB, Bool.or_eq_true, decide_eq_true_eq]; exact List.le_total a b) ss
  rw [← h2, List.pairwise_map] at hs
  have hn2 : (gs.map (·.1)).Nodup := ((h1.map (·.1)).nodup_iff).2 hn
  unfold rises
  rw [List.pairwise_map]
  have hn3 : gs.Pairwise (fun a b => a.1 ≠ b.1) := by
    have := hn2
    unfold List.Nodup at this
    rwa [List.pairwise_map] at this
  refine (hs.and hn3).imp fun {a b} hab => ?_
  obtain ⟨hle, hne⟩ := hab
  simp only [leB, decide_eq_true_eq] at hle
  rw [Lib.toList_data, Lib.toList_data]
  rcases List.le_iff_lt_or_eq.1 hle with h | h
  · exact h
  · exact (hne (by cases a; cases b; simp_all [ByteArray.ext_iff, Array.toList_inj])).elim

set_option maxRecDepth 100000 in
set_option maxHeartbeats 4000000 in
theorem dstate_any (d : Nat) (D : DSt) (R : DRep) (F : Nat → Prop) (w : World) (h : DiskAt w F d D R) (hs : ∀ f ∈ D.files, f.1.size ≤ 32) (hlen : D.files.length ≤ 1099511627776) :
    Calls Tryz.prog 17 #[.pointer (some ⟨d, 0, none⟩)] w (StatePost w D) := by
  have c1 : w.cell? ⟨d, 1, none⟩ = some (.int .i64 D.block) := h.blk.at_ 1
  have c3 : w.cell? ⟨d, 3, none⟩ = some (.map (some R.mb)) := h.blk.at_ 3
  have ld := h.blk.lt
  have lm := h.map.lt
  have hll : (links D.files R.reps).length = D.files.length := by unfold links; rw [List.length_zipWith, h.len]; omega
  have hlk := links_names D.files R.reps h.len
  have hD := Hid.intro_ h
  have k0 : Keep Nil w ((w.alloc (.cells #[.int .i64 0, .slice none 0 0] 28)).alloc (.cells #[.int .i64 D.block, .slice none 0 0] 28)) := ((Keep.refl Nil w).alloc _).alloc _
  obtain ⟨W0, hW0⟩ : ∃ W, W = (w.alloc (.cells #[.int .i64 0, .slice none 0 0] 28)).alloc (.cells #[.int .i64 D.block, .slice none 0 0] 28) := ⟨_, rfl⟩
  rw [← hW0] at k0
  have hb1 : Blk W0 (w.heap.size + 1) 28 #[.int .i64 D.block, .slice none 0 0] := by rw [hW0]; exact Blk.new_at _ _ _ (by simp)
  have hb0 : Blk W0 w.heap.size 28 #[.int .i64 0, .slice none 0 0] := by rw [hW0]; exact (Blk.new w _ _).alloc _
  have hzW : W0.heap.size = w.heap.size + 1 + 1 := by rw [hW0]; simp
  obtain ⟨D0, hown, hperm, hsz⟩ := ((h.nil k0).map).owns (fun p hp => by
    have : p.1 ∈ (links D.files R.reps).map (·.1) := List.mem_map.2 ⟨p, hp, rfl⟩
    rw [hlk] at this
    obtain ⟨f, hf, e⟩ := List.mem_map.1 this
    have := hs f hf
    rw [← e]
    unfold maxLen
    omega) (by rw [hll]; unfold maxLen; omega)
  have hK := callsIn_wide.1 (Tryz.maps_Keys_70 (some R.mb) W0)
  have hS := callsIn_wide.1 (Tryz.slices_Sorted_keys_69_70 R.mb _ D0 ptrR W0 hown (by rw [hsz, hll]; unfold maxLen; omega) (by rw [hsz, hll]; omega))
  rw [hzW] at hS
  have HS := Hid.intro_ hS
  have HK := Hid.intro_ hK
  have HP : Hid (∀ ss : List (List UInt8), ss.Perm (strKeys D0) → ∃ gs : List (ByteArray × AFile), gs.Perm D.files ∧ rises (gs.map (·.1)) ∧ gs.map (fun p => p.1.data.toList) = ss.mergeSort leB) := fun ss hss => by
    refine sorted_files (hss.trans ?_) h.ok.names
    have : ((links D.files R.reps).map fun p => p.1.data.toList) = D.files.map fun p => p.1.data.toList := by
      have := congrArg (List.map fun s : ByteArray => s.data.toList) hlk
      rw [List.map_map, List.map_map] at this
      exact this
    rw [← this]
    exact hperm
  have B0 := Hid.intro_ hb0
  have B1 := Hid.intro_ hb1
  have hk0 := Hid.intro_ k0
  have HW := Hid.intro_ hW0
  clear hS hK hown hperm hsz hll hlk k0 hb0 hb1
  go_enter Tryz.func17, Tryz.ntmps17
  go_wp2_with fail
  rw [← HW.out]
  refine HK.out.mono ?_
  rintro e w1 ⟨rfl, rfl⟩
  go_wp2_with fail
  rw [← HW.out]
  refine HS.out.mono ?_
  rintro e w2 ⟨v0, ss, rfl, hss, hrow, _, hbel⟩
  have kw2 : Keep Nil w w2 := (hk0.out.alloc _).then_ (Keep.of_below hbel (fun b h1 h2 => absurd h2 (by omega)))
  have kW2 : Keep Nil W0 w2 := ((Keep.refl Nil W0).alloc _).then_ (Keep.of_below hbel (fun b h1 h2 => absurd h2 (by omega)))
  obtain ⟨gs, hg1, hg2, hg3⟩ := HP.out ss hss
  have hsl : (ss.mergeSort leB).length = ss.length := (List.mergeSort_perm ss leB).length_eq
  have hgl : gs.length = ss.length := by rw [← hsl, ← hg3, List.length_map]
  have hgf : gs.length = D.files.length := hg1.length_eq
  rw [← hsl] at hrow
  obtain ⟨A, cA, hA, hAT⟩ := names_at hrow
  subst hA
  rw [hsl, ← hgl] at *
  have HG1 := Hid.intro_ hg1
  have HG2 := Hid.intro_ hg2
  have hnm : Hid (∀ k f, gs[k]? = some f → ∃ g, A = some ⟨g, 0, none⟩ ∧ w2.cell? ⟨g, k, none⟩ = some (.string f.1) ∧ w.heap.size + 1 < g) := fun k f hk => by
    have ht : (ss.mergeSort leB)[k]? = some f.1.data.toList := by rw [← hg3, List.getElem?_map, hk]; rfl
    obtain ⟨g, e, hc⟩ := hAT k _ ht
    refine ⟨g, e, by simpa using hc, ?_⟩
    have := (hrow.lt g (by rw [e]; rfl)).1
    simp at this
    omega
  have b1 := Hid.intro_ (B1.out.keep kW2 (fun h => h))
  have b0 := Hid.intro_ (B0.out.keep kW2 (fun h => h))
  have hgl2 : gs.length ≤ 1099511627776 := by omega
  have KW := Hid.intro_ kw2
  have hz2w := Hid.intro_ kw2.size
  clear hrow hbel hg1 hg2 hg3 hAT kw2 kW2 hss hsl hgl hgf
  go_wp2_with fail
  have hI0 : Hid (SInv w w2 w2.heap.size D.block (gs.take 0)) := ⟨KW.out, b0.out, _, b1.out, OFl.nil_ _ _ _⟩
  go_loopw [22] (fun i wr => ∃ k : Nat, k ≤ gs.length ∧ i = .int .i64 k ∧ Keep (fun b => b = w.heap.size + 1) w2 wr ∧ Hid (SInv w wr w2.heap.size D.block (gs.take k))) (fun i _ => gs.length - (intOf i).toNat)
  case atStart => exact ⟨0, Nat.zero_le _, rfl, Keep.refl _ _, hI0⟩
  case round =>
    obtain ⟨k, hk, rfl, kwr, HI⟩ := hrel
    obtain ⟨wo, rfl⟩ : ∃ x : World, x = wr := ⟨_, rfl⟩
    by_cases hlt : k < gs.length
    · obtain ⟨f, hf⟩ : ∃ f, gs[k]? = some f := ⟨_, List.getElem?_eq_getElem hlt⟩
      obtain ⟨g, rfl, hc, hgz⟩ := hnm.out k f hf
      have hc' := cell_keep hc kwr (fun e => by have : g = w.heap.size + 1 := e; omega)
      have hko := HI.out.keep
      have hDo := hD.out.nil hko
      obtain ⟨i, hi⟩ := List.mem_iff_getElem?.1 (HG1.out.mem_iff.1 (List.mem_of_getElem? hf))
      obtain ⟨r, hr, _, hpos⟩ := (pos_links f.1 D.files R.reps hDo.len).2 i f.2 (fpos_at hDo.ok.names hi)
      have hlook := hDo.map.look Tryz.underlying151 Tryz.underlying9 (zero_file _) f.1
      rw [hpos] at hlook
      simp only [Option.map_some, Option.getD_some] at hlook
      have hfa := hDo.file i f r hi hr
      obtain ⟨vs, hrow, _, hvs⟩ := hfa.row
      obtain ⟨A2, c2, hr2⟩ := own_form hrow
      have hbl := blocks_le hDo.ok hi
      have hu1 := hDo.ok.le
      have hr1 := hDo.ok.r1
      have hb0 := hDo.ok.b0
      have hb1 := hDo.ok.b1
      have hsz : ∀ b ∈ f.2.blocks, 1 ≤ b.length ∧ b.length ≤ 65536 := fun b hb => by
        have := hDo.ok.size f (List.mem_of_getElem? hi) b hb
        omega
      have d3 : wo.cell? ⟨d, 3, none⟩ = some (.map (some R.mb)) := hDo.blk.at_ 3
      obtain ⟨S, hS⟩ : ∃ S : Int, S = if f.2.done = true then 1 else 0 := ⟨_, rfl⟩
      have r0 : wo.cell? ⟨r.1, 0, none⟩ = some (.int .i64 S) := by rw [hS]; exact hfa.blk.at_ 0
      have r1 : wo.cell? ⟨r.1, 1, none⟩ = some (.slice A2 f.2.blocks.length c2) := by rw [← hr2]; exact hfa.blk.at_ 1
      have lr := hfa.blk.lt
      have q1 : (S == 1) = f.2.done := by rw [hS]; cases f.2.done <;> rfl
      obtain ⟨dn, hdn⟩ : ∃ dn, dn = f.2.done := ⟨_, rfl⟩
      rw [← hdn] at q1
      have HDN := Hid.intro_ hdn
      have HF := Hid.intro_ hf
      have HVS := Hid.intro_ hvs
      have HROW := Hid.intro_ hrow
      have HSZ := Hid.intro_ hsz
      have HR2 := Hid.intro_ hr2
      obtain ⟨v, hbv, hofl⟩ := HI.out.st
      have HBV := Hid.intro_ hbv
      have HOFL := Hid.intro_ hofl
      have lst := hbv.lt
      have hIn0 : Hid (SIn w (wo.alloc (.cells #[.string f.1, .bool dn, .slice none 0 0] 55)) w2.heap.size wo.heap.size D.block (gs.take k) f.1 dn (f.2.blocks.take 0)) := by
        have ka := (Keep.refl Nil wo).alloc (.cells #[.string f.1, .bool dn, .slice none 0 0] 55)
        refine ⟨hko.then_ ka, HI.out.res.keep ka (fun h => h), ⟨v, hbv.keep ka (fun h => h), (hofl.mono (fun b hb hl => ⟨hb, hl⟩)).nil ka, fun g' hg' => ?_⟩, ⟨_, Blk.new _ _ _, OFs.nil_ _ _ _⟩, lst⟩
        obtain ⟨rs, _, ho, _⟩ := hofl.out
        exact (ho.lt g' hg').2
      clear hS hdn hi hpos hr hvs hrow hsz hr2 hbv hofl hf hfa
      go_wp2_with fail
      go_loopw [44] (fun j wi => ∃ m : Nat, m ≤ f.2.blocks.length ∧ j = .int .i64 m ∧ Keep Nil wo wi ∧ Hid (SIn w wi w2.heap.size wo.heap.size D.block (gs.take k) f.1 dn (f.2.blocks.take m))) (fun j _ => f.2.blocks.length - (intOf j).toNat)
      case atStart => exact ⟨0, Nat.zero_le _, rfl, (Keep.refl Nil wo).alloc _, hIn0⟩
      case round =>
        obtain ⟨m, hm, rfl, kwi, HIN⟩ := hrel
        by_cases hmt : m < f.2.blocks.length
        · obtain ⟨bs, hbs⟩ : ∃ bs, f.2.blocks[m]? = some bs := ⟨_, List.getElem?_eq_getElem hmt⟩
          obtain ⟨x, hx⟩ : ∃ x, vs[m]? = some x := ⟨_, List.getElem?_eq_getElem (by have := HROW.out.1; omega)⟩
          have hbx := HVS.out m x bs hx hbs
          obtain ⟨a3, c3, rfl, hrd3, hF3, ht3⟩ := hbx.out
          have hrow2 := HROW.out
          rw [HR2.out] at hrow2
          obtain ⟨ga, rfl, p4⟩ := own_at hrow2 hx
          have p5 := cell_keep p4 kwi (fun h => h)
          have hcl := clone_rd a3 c3 bs wr.drew (hrd3.keep (kwi.drew) (fun _ _ _ h => h)) (HSZ.out bs (List.mem_of_getElem? hbs)).2
          obtain ⟨u, hub, hof⟩ := HIN.out.box
          obtain ⟨vs0, ho0, hv0⟩ := hof.out
          have hml : (f.2.blocks.take m).length = m := by rw [List.length_take]; omega
          rw [hml] at ho0
          have huo : u.oneCell' = true := by rcases ho0.2 with ⟨e, _⟩ | ⟨_, _, _, e, _⟩ <;> rw [e] <;> rfl
          have cu : wr.cell? ⟨wo.heap.size, 2, none⟩ = some u := hub.at_ 2
          have lwo := hub.lt
          have nug : ¬ u.ownBlock = some wo.heap.size := fun e => by
            obtain ⟨cur, hc⟩ := own_blk ho0 e
            exact Blk.ne_ hub hc (by decide) rfl
          have HUB := Hid.intro_ hub
          have HO := Hid.intro_ ho0
          have HV0 := Hid.intro_ hv0
          have HCL := Hid.intro_ hcl
          have HBS := Hid.intro_ hbs
          have hml2 := Hid.intro_ hml
          have hm40 : m ≤ 1099511627776 := by omega
          obtain ⟨i1, hi1, hy0, hy1, hy2⟩ := info_parts info_bytes
          clear hbs hx hbx hrow2 p4 hrd3 ht3 hcl hub ho0 hv0 hml hof
          go_wp2_with fail
          go_region_law (first
            | (refine step_append_own rfl (.tmp 49) (.tmp 52) 53 rfl wo.heap.size 161 i1 (.slice none 0 0) 1 24 Tryz.underlying53 hi1 hy0 hy1 hy2 rfl (by decide) u m vs0 (by simp [Act.eval]) (own_keep HO.out (((Keep.refl Nil wr).drew.then_ k2).alloc _) (fun g _ h => h)) ⟨wq.heap.size, 0, none⟩ 1 1 [.slice A4 bs.length c4] (by simp [Act.eval]) rfl (one_new _ _ _) (by simp [Value.oneCell']) (by unfold maxLen; omega) (by omega) (by have := k2.size; have := HUB.out.lt; simp at *; omega) ?_; intro av cv3 w3 ho3 k3 hv3
               have b3 := ((HUB.out.keep ((Keep.refl Nil wr).drew.then_ k2) (fun h => h)).alloc (.cells #[.slice A4 bs.length c4] 161)).keep k3 nug
               have x3 : w3.cell? ⟨wo.heap.size, 2, none⟩ = some u := b3.at_ 2
               have y3 := b3.fr 2)
            | (go_simp; go_at_call 71; refine HCL.out.mono ?_; rintro e wq ⟨u2, rfl, hb2, k2⟩
               obtain ⟨A4, c4, rfl, _, _, _, _⟩ := hb2.out
               have cu2 := cell_keep (w := wr.drew) cu k2 (fun h => h)
               have lw2 : wo.heap.size < wq.heap.size := cell_lt cu2
               have HB2 := Hid.intro_ hb2
               clear hb2))
          all_goals
            have hfin : Keep Nil wo (w3.setCell ⟨wo.heap.size, 2, none⟩ (.slice av (m + 1) cv3)) ∧ SIn w (w3.setCell ⟨wo.heap.size, 2, none⟩ (.slice av (m + 1) cv3)) w2.heap.size wo.heap.size D.block (gs.take k) f.1 dn (f.2.blocks.take (m + 1)) := by
              have htk : f.2.blocks.take (m + 1) = f.2.blocks.take m ++ [bs] := by rw [List.take_add_one, HBS.out]; rfl
              rw [htk]
              have hpush := SIn.push HIN.out HUB.out (by rw [hml2.out]; exact HO.out) HV0.out ((Keep.refl Nil wr).drew.then_ k2) HB2.out ((Keep.refl Nil wq).alloc _) (by rw [hml2.out]; exact ho3.out) k3 (by simpa using hv3.out)
              refine ⟨?_, hpush⟩
              refine kwi.trans ((((Keep.refl Nil wr).drew.then_ k2).alloc _).mono (fun _ _ h => h.elim) |>.trans (k3.mono (fun b _ hb => (own_base HO.out hb : wo.heap.size ≤ b))) (fun _ _ h => h) |>.setCell (p := ⟨wo.heap.size, 2, none⟩) (fun _ => Nat.le_refl _) _) (fun b hb e => ?_)
              have : wo.heap.size ≤ b := e
              omega
            have KC := Hid.intro_ hfin.1
            have HI2 := Hid.intro_ hfin.2
            clear hfin
            go_wp2
            go_roundw
            case rel => exact ⟨m + 1, by omega, by go_num, KC.out, HI2⟩
            case measure => simp [intOf]; omega
        · obtain rfl : m = f.2.blocks.length := by omega
          have hI := HIN.out
          rw [List.take_length, HDN.out] at hI
          obtain ⟨vv, hb1, hofl1, hvlow⟩ := hI.st
          obtain ⟨u, hub, hof⟩ := hI.box
          obtain ⟨rs, hrl, ho0, hve⟩ := hofl1.out
          have hkl : (gs.take k).length = k := by rw [List.length_take]; omega
          rw [hkl] at ho0
          obtain ⟨vs1, hou, _⟩ := hof.out
          obtain ⟨Au, cu, rfl⟩ := own_form hou
          have hvo : vv.oneCell' = true := by rcases ho0.2 with ⟨e, _⟩ | ⟨_, _, _, e, _⟩ <;> rw [e] <;> rfl
          have x1 : wr.cell? ⟨w.heap.size + 1, 1, none⟩ = some vv := hb1.at_ 1
          have xf := hb1.fr 1
          have x2 : wr.cell? ⟨wo.heap.size, 0, none⟩ = some (.string f.1) := hub.at_ 0
          have x3 : wr.cell? ⟨wo.heap.size, 1, none⟩ = some (.bool f.2.done) := hub.at_ 1
          have x4 : wr.cell? ⟨wo.heap.size, 2, none⟩ = some (.slice Au f.2.blocks.length cu) := hub.at_ 2
          have lw1 := hb1.lt
          have nvst : ¬ vv.ownBlock = some (w.heap.size + 1) := fun e => by
            obtain ⟨cur, hc⟩ := own_blk ho0 e
            exact Blk.ne_ hb1 hc (by decide) rfl
          have lwo := hub.lt
          have hbase := hI.keep.size
          have HO := Hid.intro_ ho0
          have HVE := Hid.intro_ hve
          have HOF := Hid.intro_ hof
          have HB1 := Hid.intro_ hb1
          have HII := Hid.intro_ hI
          have hkl2 := Hid.intro_ hkl
          obtain ⟨fd, hfd⟩ : ∃ b, b = f.2.done := ⟨_, rfl⟩
          rw [← hfd] at x3
          have HFD := Hid.intro_ hfd
          obtain ⟨i2, hi2, hz0, hz1, hz2⟩ := info_parts info_file
          clear ho0 hve hof hb1 hI hkl hub hou hfd hofl1
          go_wp2_with (at_builtin; refine wpList_append_own_at _ rfl (.tmp 57) (.tmp 59) 26 rfl w2.heap.size 55 i2 (.agg #[.string ⟨#[]⟩, .bool false, .slice none 0 0]) 3 48 Tryz.underlying26 hi2 hz0 hz1 hz2 rfl (by decide) vv k (fileCells (gs.take k) rs) (by simp [Act.eval]) (own_keep HO.out ((Keep.refl Nil _).alloc _) (fun g _ h => h)) ⟨wr.heap.size, 0, none⟩ 1 1 [.string f.1, .bool fd, .slice Au f.2.blocks.length cu] (by simp [Act.eval]) rfl (news_new rfl) (by simp [Value.oneCell']) (by unfold maxLen; omega) (by omega) (by have := kwr.size; have := kwi.size; simp; omega) ?_; intro s1 w1 ho1 hg1 _ hs1
                       have k1 := Keep.of_grown hg1
                       have kx : Keep (fun b => vv.ownBlock = some b) wr w1 := (((Keep.refl Nil wr).alloc _).mono (fun _ _ h => h.elim)).then_ k1
                       have bst := HB1.out.keep kx nvst
                       have y1 : w1.cell? ⟨w.heap.size + 1, 1, none⟩ = some vv := bst.at_ 1
                       have yf := bst.fr 1
                       obtain ⟨av, cv, rfl⟩ := own_form ho1
                       have HO1 := Hid.intro_ ho1
                       have HS1 := Hid.intro_ hs1
                       clear ho1 hs1 hg1)
          have hfin : Hid (SInv w (w1.setCell ⟨w.heap.size + 1, 1, none⟩ (.slice av (k + 1) cv)) w2.heap.size D.block (gs.take (k + 1))) := by
            have htk : gs.take (k + 1) = gs.take k ++ [f] := by rw [List.take_add_one, HF.out]; rfl
            rw [htk]
            exact SIn.done hz2w.out HII.out HB1.out hrl (by rw [hkl2.out]; exact HO.out) HVE.out HOF.out (by rw [hkl2.out, ← HFD.out]; exact HO1.out) k1 (by simpa using HS1.out)
          have hkeep : Keep (fun b => b = w.heap.size + 1) w2 (w1.setCell ⟨w.heap.size + 1, 1, none⟩ (.slice av (k + 1) cv)) := by
            refine ((kwr.then_ (kwi.mono (fun _ _ h => h.elim))).trans (kx.mono (G := fun b => vv.ownBlock = some b) (fun _ _ h => h)) (fun b hb e => ?_)).setCell (p := ⟨w.heap.size + 1, 1, none⟩) (fun _ => rfl) _
            have := own_base HO.out e
            omega
          go_roundw
          case rel => exact ⟨k + 1, by omega, by go_num, hkeep, hfin⟩
          case measure => simp [intOf]; omega
    · obtain rfl : k = gs.length := by omega
      have hI := HI.out
      rw [List.take_length] at hI
      obtain ⟨v, hbv, hofl⟩ := hI.st
      obtain ⟨rs, hrl, ho0, hve⟩ := hofl.out
      have ho1 := ho0
      obtain ⟨Av, cv, rfl⟩ := own_form ho1
      have x0 : wo.cell? ⟨w.heap.size + 1, 0, none⟩ = some (.int .i64 D.block) := hbv.at_ 0
      have x1 : wo.cell? ⟨w.heap.size + 1, 1, none⟩ = some (.slice Av gs.length cv) := hbv.at_ 1
      have z0 : wo.cell? ⟨w.heap.size, 0, none⟩ = some (.int .i64 0) := hI.res.at_ 0
      have z1 : wo.cell? ⟨w.heap.size, 1, none⟩ = some (.slice none 0 0) := hI.res.at_ 1
      have f0 := hI.res.fr 0
      have f1 := hI.res.fr 1
      have hfl : Hid (FlAt wo (fun b => w.heap.size ≤ b) (.slice Av gs.length cv) gs) := hofl.fl (fun g hg => Nat.le_trans hz2w.out (own_base ho1 hg))
      have HII := Hid.intro_ hI
      clear hI hbv hofl ho0 hve ho1
      go_wp2
      refine bodyPost_ret (v := .agg #[.int .i64 D.block, .slice Av gs.length cv]) (by simp [results, Tryz.results17, go_sem, z0, z1]) rfl ?_
      have k := ((Keep.refl (fun b => b = w.heap.size) wo).setCell (p := ⟨w.heap.size, 0, none⟩) (fun _ => rfl) (.int .i64 D.block)).setCell (p := ⟨w.heap.size, 1, none⟩) (fun _ => rfl) (.slice Av gs.length cv)
      refine ⟨_, gs, rfl, HG1.out, HG2.out, ⟨_, rfl, hfl.out.far (g := w.heap.size) k (fun cs t fr hc => ?_)⟩, ?_⟩
      · have hb := HII.out.res
        unfold Blk at hb
        rw [hc] at hb
        injection hb with hb
        injection hb with _ hb
        subst hb
        exact ⟨by decide, by decide, by decide⟩
      · exact HII.out.keep.trans k (fun b hb e => by have : b = w.heap.size := e; omega)
end Go.Proofs.YtadipinnbehhhaaGreatDoor
namespace Go.Proofs.YtadipinnbehhhaaGreatDoor
open Go.RowKit

theorem toList_inj {a b : ByteArray} (h : a.toList = b.toList) : a = b := by
  rw [Lib.toList_data, Lib.toList_data] at h
  cases a; cases b
  congr
  exact Array.toList_inj.1 h
theorem str_ne {a b : ByteArray} (h : ¬ a = b) : (a.toList == b.toList) = false := by rw [beq_eq_false_iff_ne]; exact fun e => h (toList_inj e)

/-- What stands of Find where the file is there. -/
def FindPost (w : World) (H : Nat → Prop) (f : ByteArray × AFile) (e : Ending) (w' : World) : Prop :=
  ∃ Ar cr, e = .returned (.tuple #[.agg #[.string f.1, .bool f.2.done, .slice Ar f.2.blocks.length cr], .bool true]) ∧ FsAt w' H (.slice Ar f.2.blocks.length cr) f.2.blocks ∧ Keep Nil w w'

set_option maxRecDepth 100000 in
set_option maxHeartbeats 2000000 in
theorem find_true (H : Nat → Prop) (v : Value) (block : Int) (fs : List (ByteArray × AFile)) (i : Nat) (f : ByteArray × AFile) (w : World) (hs : StAt w H v block fs) (hi : fs[i]? = some f) (hn : (fs.map (·.1)).Nodup) (hl : fs.length ≤ 1099511627776) :
    Calls Tryz.prog 16 #[v, .string f.1] w (FindPost w H f) := by
  obtain ⟨u, rfl, hf⟩ := hs.out
  obtain ⟨A, c, rfl⟩ := hf.form
  have hil := (List.getElem?_eq_some_iff.1 hi).1
  have HFL := Hid.intro_ hf
  have HI := Hid.intro_ hi
  have HN := Hid.intro_ hn
  have k0 : Keep Nil w ((w.alloc (.cells #[.int .i64 block, .slice A fs.length c] 28)).alloc (.cells #[.string ⟨#[]⟩, .bool false, .slice none 0 0] 55)) := ((Keep.refl Nil w).alloc _).alloc _
  have hb1 := (Blk.new w 28 #[.int .i64 block, .slice A fs.length c]).alloc (.cells #[.string ⟨#[]⟩, .bool false, .slice none 0 0] 55)
  have hb2 := Blk.new_at (n := w.heap.size + 1) (w.alloc (.cells #[.int .i64 block, .slice A fs.length c] 28)) 55 #[.string ⟨#[]⟩, .bool false, .slice none 0 0] (by simp)
  have K0 := Hid.intro_ k0
  have B1 := Hid.intro_ hb1
  have B2 := Hid.intro_ hb2
  clear hs hf hi hn k0 hb1 hb2
  go_enter Tryz.func16, Tryz.ntmps16
  go_wp2
  go_loopw [6] (fun j wr => ∃ k : Nat, k ≤ i ∧ j = .int .i64 k ∧ Keep Nil ((w.alloc (.cells #[.int .i64 block, .slice A fs.length c] 28)).alloc (.cells #[.string ⟨#[]⟩, .bool false, .slice none 0 0] 55)) wr) (fun j _ => i - (intOf j).toNat)
  case atStart => exact ⟨0, Nat.zero_le _, rfl, Keep.refl _ _⟩
  case round =>
    obtain ⟨k, hk, rfl, kwr⟩ := hrel
    have kk := K0.out.then_ kwr
    have b1 := B1.out.keep kwr (fun h => h)
    have b2 := B2.out.keep kwr (fun h => h)
    have x1 : wr.cell? ⟨w.heap.size, 1, none⟩ = some (.slice A fs.length c) := b1.at_ 1
    have y0 : wr.cell? ⟨w.heap.size + 1, 0, none⟩ = some (.string ⟨#[]⟩) := b2.at_ 0
    have y1 : wr.cell? ⟨w.heap.size + 1, 1, none⟩ = some (.bool false) := b2.at_ 1
    have y2 : wr.cell? ⟨w.heap.size + 1, 2, none⟩ = some (.slice none 0 0) := b2.at_ 2
    have f0 := b2.fr 0
    have f1 := b2.fr 1
    have f2 := b2.fr 2
    have hklt : k < fs.length := by omega
    obtain ⟨f', hf'⟩ : ∃ f', fs[k]? = some f' := ⟨_, List.getElem?_eq_getElem hklt⟩
    obtain ⟨g, o, Ar, cr, rfl, p0, p1, p2, hfs⟩ := (HFL.out.nil kk).get hf'
    by_cases hlt : k < i
    · have hne : ¬ f'.1 = f.1 := fun e => by
        have := nodup_eq HN.out (show (fs.map (·.1))[k]? = some f.1 by rw [List.getElem?_map, hf', Option.map_some, e]) (show (fs.map (·.1))[i]? = some f.1 by rw [List.getElem?_map, HI.out]; rfl)
        omega
      have q := str_ne hne
      clear hf' hfs hne
      go_wp2
      go_roundw
      case rel => exact ⟨k + 1, by omega, by go_num, kwr⟩
      case measure => simp [intOf]; omega
    · obtain rfl : k = i := by omega
      obtain rfl : f' = f := by have := HI.out; rw [hf'] at this; injection this
      have HFS := Hid.intro_ hfs
      clear hf' hfs
      go_wp2
      refine bodyPost_ret (v := .tuple #[.agg #[.string f'.1, .bool f'.2.done, .slice Ar f'.2.blocks.length cr], .bool true]) (by simp [results, Tryz.results16, go_sem, y0, y1, y2]) rfl ?_
      have ks := (((Keep.refl (fun b => b = w.heap.size + 1) wr).setCell (p := ⟨w.heap.size + 1, 0, none⟩) (fun _ => rfl) (.string f'.1)).setCell (p := ⟨w.heap.size + 1, 1, none⟩) (fun _ => rfl) (.bool f'.2.done)).setCell (p := ⟨w.heap.size + 1, 2, none⟩) (fun _ => rfl) (.slice Ar f'.2.blocks.length cr)
      have hty : ∀ cs t fr, wr.heap[w.heap.size + 1]? = some (.cells cs t fr) → t = 55 := fun cs t fr hc => by
        have hb := b2
        unfold Blk at hb
        rw [hc] at hb
        injection hb with hb
        injection hb with _ hb
      refine ⟨Ar, cr, rfl, HFS.out.far (g := w.heap.size + 1) ks (fun cs fr hc => absurd (hty cs _ fr hc) (by decide)) (fun cs fr hc => absurd (hty cs _ fr hc) (by decide)), ?_⟩
      exact kk.trans ks (fun b hb e => by have : b = w.heap.size + 1 := e; omega)

/-- What stands of Without. -/
def WithoutPost (w : World) (H : Nat → Prop) (block : Int) (fs : List (ByteArray × AFile)) (e : Ending) (w' : World) : Prop :=
  ∃ v, e = .returned v ∧ StAt w' (fun b => H b ∨ w.heap.size ≤ b) v block fs ∧ Keep Nil w w'

/-- What stands of Without when k files have been looked at. -/
structure WoInv (w wr : World) (b0 : Nat) (H : Nat → Prop) (block : Int) (sv : Value) (done : List (ByteArray × AFile)) : Prop where mk ::
  keep : Keep Nil w wr
  st : Blk wr w.heap.size 28 #[.int .i64 block, sv]
  res : Blk wr (w.heap.size + 1) 28 #[.int .i64 0, .slice none 0 0]
  out : ∃ v, Blk wr (w.heap.size + 2) 28 #[.int .i64 block, v] ∧ OFl wr b0 (fun b => H b ∨ w.heap.size ≤ b) v done

/-- One more comes to the row. -/
theorem WoInv.push {w wr w1 : World} {b0 : Nat} {H : Nat → Prop} {block : Int} {sv : Value} {done : List (ByteArray × AFile)} {f : ByteArray × AFile} {v v' u : Value} {rs : List Value} {w2 : World} (hb0 : w.heap.size + 2 < b0) (h : WoInv w wr b0 H block sv done)
    (hv : Blk wr (w.heap.size + 2) 28 #[.int .i64 block, v]) (hrl : rs.length = done.length) (ho : wr.ownsRow b0 55 3 v done.length (fileCells done rs))
    (hve : ∀ (j : Nat) (r : Value) (f : ByteArray × AFile), rs[j]? = some r → done[j]? = some f → FsAt wr (fun b => H b ∨ w.heap.size ≤ b) r f.2.blocks) (hof : FsAt wr (fun b => H b ∨ w.heap.size ≤ b) u f.2.blocks) (ka : Keep Nil wr w2)
    (ho1 : w1.ownsRow b0 55 3 v' (done.length + 1) (fileCells done rs ++ [.string f.1, .bool f.2.done, u])) (k1 : Keep (fun b => v.ownBlock = some b) w2 w1) (hv1 : v'.ownBlock = v.ownBlock ∨ v'.ownBlock = some w2.heap.size) :
    WoInv w (w1.setCell ⟨w.heap.size + 2, 1, none⟩ v') b0 H block sv (done ++ [f]) := by
  obtain ⟨a1, a2, a3, _⟩ := h
  have hvg : ∀ b, v.ownBlock = some b → b0 ≤ b := fun b hb => own_base ho hb
  have nst : ∀ {b : Nat} {cs : Array Value}, Blk wr b 28 cs → ¬ v.ownBlock = some b := fun hb e => by
    obtain ⟨cur, hc⟩ := own_blk ho e
    exact Blk.ne_ hb hc (by decide) rfl
  have nst' : ∀ {b : Nat} {cs : Array Value}, Blk wr b 28 cs → ¬ v'.ownBlock = some b := fun {b cs} hb e => by
    rcases hv1 with h3 | h3
    · exact nst hb (by rw [← h3]; exact e)
    · rw [h3] at e; injection e with e; have := ka.size; have := hb.lt; omega
  have kw1 : Keep (fun b => v.ownBlock = some b) wr w1 := (ka.mono (fun _ _ h => h.elim)).then_ k1
  have ks := (Keep.refl (fun b => b = w.heap.size + 2) w1).setCell (p := ⟨w.heap.size + 2, 1, none⟩) (fun _ => rfl) v'
  refine ⟨?_, ?_, ?_, v', ?_, ?_⟩
  · refine (a1.trans kw1 (fun b hb e => by have := hvg b e; omega)).trans ks (fun b hb e => by have : b = w.heap.size + 2 := e; omega)
  · exact (a2.keep kw1 (nst a2)).keep ks (fun e => by have : w.heap.size = w.heap.size + 2 := e; omega)
  · exact (a3.keep kw1 (nst a3)).keep ks (fun e => by have : w.heap.size + 1 = w.heap.size + 2 := e; omega)
  · exact (hv.keep kw1 (nst hv)).set_ 1 v'
  · have hpush : OFl w1 b0 (fun b => H b ∨ w.heap.size ≤ b) v' (done ++ [f]) :=
      OFl.push (w1 := w2) (rs := rs) (v := v) (fun j r f hr hf => (hve j r f hr hf).nil ka) hrl (own_keep ho ka (fun _ _ h => h)) (hof.nil ka) ho1 k1
    have hst1 := hv.keep kw1 (nst hv)
    obtain ⟨rs1, g1, g2, g3⟩ := hpush.out
    refine ⟨rs1, g1, own_keep g2 ks (fun g hg e => nst' hv (by rw [← show g = w.heap.size + 2 from e]; exact hg)), fun j r f hr hf => ?_⟩
    refine (g3 j r f hr hf).far (g := w.heap.size + 2) ks (fun cs fr hc => ?_) (fun cs fr hc => ?_)
    · unfold Blk at hst1; rw [hc] at hst1; injection hst1 with hst1; injection hst1 with _ hst1; exact absurd hst1 (by decide)
    · unfold Blk at hst1; rw [hc] at hst1; injection hst1 with hst1; injection hst1 with _ hst1; exact absurd hst1 (by decide)

/-- The files of other names. -/
def others (s : ByteArray) (fs : List (ByteArray × AFile)) : List (ByteArray × AFile) := fs.filter fun f => decide (¬ f.1 = s)

set_option maxRecDepth 100000 in
set_option maxHeartbeats 4000000 in
theorem without_any (H : Nat → Prop) (v : Value) (block : Int) (fs : List (ByteArray × AFile)) (s : ByteArray) (w : World) (hs : StAt w H v block fs) (hl : fs.length ≤ 1099511627776) :
    Calls Tryz.prog 75 #[v, .string s] w (WithoutPost w H block (others s fs)) := by
  obtain ⟨u, rfl, hf⟩ := hs.out
  obtain ⟨A, c, rfl⟩ := hf.form
  have HFL := Hid.intro_ hf
  have hI0 : Hid (WoInv w (((w.alloc (.cells #[.int .i64 block, .slice A fs.length c] 28)).alloc (.cells #[.int .i64 0, .slice none 0 0] 28)).alloc (.cells #[.int .i64 block, .slice none 0 0] 28)) (w.heap.size + 3) H block (.slice A fs.length c) (others s (fs.take 0))) :=
    ⟨(((Keep.refl Nil w).alloc _).alloc _).alloc _, ((Blk.new w _ _).alloc _).alloc _, (Blk.new_at _ _ _ (by simp)).alloc _, _, Blk.new_at _ _ _ (by simp), OFl.nil_ _ _ _⟩
  clear hs hf
  go_enter Tryz.func75, Tryz.ntmps75
  go_wp2
  go_loopw [6] (fun j wr => ∃ k : Nat, k ≤ fs.length ∧ j = .int .i64 k ∧ Hid (WoInv w wr (w.heap.size + 3) H block (.slice A fs.length c) (others s (fs.take k)))) (fun j _ => fs.length - (intOf j).toNat)
  case atStart => exact ⟨0, Nat.zero_le _, rfl, hI0⟩
  case round =>
    obtain ⟨k, hk, rfl, HI⟩ := hrel
    obtain ⟨kk, b1, b0, vo, b2, hofl⟩ := HI.out
    obtain ⟨rs, hrl, ho0, hve⟩ := hofl.out
    have x0 : wr.cell? ⟨w.heap.size, 0, none⟩ = some (.int .i64 block) := b1.at_ 0
    have x1 : wr.cell? ⟨w.heap.size, 1, none⟩ = some (.slice A fs.length c) := b1.at_ 1
    have y0 : wr.cell? ⟨w.heap.size + 2, 0, none⟩ = some (.int .i64 block) := b2.at_ 0
    have y1 : wr.cell? ⟨w.heap.size + 2, 1, none⟩ = some vo := b2.at_ 1
    have yf := b2.fr 1
    have hvo : vo.oneCell' = true := by rcases ho0.2 with ⟨e, _⟩ | ⟨_, _, _, e, _⟩ <;> rw [e] <;> rfl
    have l1 := b1.lt
    have l2 := b2.lt
    have nst : ∀ {b : Nat} {cs : Array Value}, Blk wr b 28 cs → ¬ vo.ownBlock = some b := fun hb e => by
      obtain ⟨cur, hc⟩ := own_blk ho0 e
      exact Blk.ne_ hb hc (by decide) rfl
    have n2 := nst b2
    have n1 := nst b1
    have HO := Hid.intro_ ho0
    have HVE := Hid.intro_ hve
    have B2 := Hid.intro_ b2
    have B1 := Hid.intro_ b1
    have KK := Hid.intro_ kk
    have hol : (others s (fs.take k)).length ≤ k := Nat.le_trans (List.length_filter_le _ _) (List.length_take_le _ _)
    clear nst hofl ho0 hve
    by_cases hlt : k < fs.length
    · obtain ⟨f, hf'⟩ : ∃ f', fs[k]? = some f' := ⟨_, List.getElem?_eq_getElem hlt⟩
      obtain ⟨g, o, Ar, cr, rfl, p0, p1, p2, hfs⟩ := (HFL.out.nil kk).get hf'
      have htk : Hid (fs.take (k + 1) = fs.take k ++ [f]) := by rw [List.take_add_one, hf']; exact Hid.intro_ rfl
      have lg := cell_lt p0
      by_cases hne : f.1 = s
      · subst hne
        have ho : Hid (others f.1 (fs.take (k + 1)) = others f.1 (fs.take k)) := by rw [htk.out]; unfold others; rw [List.filter_append]; exact Hid.intro_ (by simp)
        have HI2 : Hid (WoInv w wr (w.heap.size + 3) H block (.slice (some ⟨g, o, none⟩) fs.length c) (others f.1 (fs.take (k + 1)))) := by rw [ho.out]; exact HI
        clear hf' hfs b0 b1 b2
        go_wp2
        go_roundw
        case rel => exact ⟨k + 1, by omega, by go_num, HI2⟩
        case measure => simp [intOf]; omega
      · have q := str_ne hne
        have ho : Hid (others s (fs.take (k + 1)) = others s (fs.take k) ++ [f]) := by rw [htk.out]; unfold others; rw [List.filter_append]; exact Hid.intro_ (by simp [hne])
        have HFS := Hid.intro_ hfs
        obtain ⟨i2, hi2, hz0, hz1, hz2⟩ := info_parts info_file
        have hkw : IntKind.i64.wrap (k : Int) = (k : Int) := IntWalk.i64_in _ (by omega)
        have hk0 : 0 ≤ (k : Int) := by omega
        have hk1 : (k : Int) < (fs.length : Int) := by omega
        obtain ⟨N, hN⟩ : ∃ N, N = (others s (fs.take k)).length := ⟨_, rfl⟩
        rw [← hN] at HO hol
        have HNN := Hid.intro_ hN
        clear hf' hfs b0 b1 b2 hne hN
        go_wp2_with fail
        go_region_law (refine step_append_own rfl (.tmp 26) (.tmp 32) 26 rfl (w.heap.size + 3) 55 i2 (.agg #[.string ⟨#[]⟩, .bool false, .slice none 0 0]) 3 48 Tryz.underlying26 hi2 hz0 hz1 hz2 rfl (by decide) vo N (fileCells (others s (fs.take k)) rs) (by simp [Act.eval]) (own_keep HO.out ((Keep.refl Nil wr).drew.alloc _) (fun g _ h => h)) ⟨wr.heap.size, 0, none⟩ 1 1 [.string f.1, .bool f.2.done, .slice Ar f.2.blocks.length cr] (by simp [Act.eval]) rfl (news_new (w := wr.drew) rfl) (by simp [Value.oneCell']) (by unfold maxLen; omega) (by omega) (by have := KK.out.size; have := B2.out.lt; simp; omega) ?_; intro av cv w3 ho3 k3 hv3
                       have b3 := ((B2.out.drew).alloc (.cells #[.string f.1, .bool f.2.done, .slice Ar f.2.blocks.length cr] 55)).keep k3 n2
                       have x3 : w3.cell? ⟨w.heap.size + 2, 1, none⟩ = some vo := b3.at_ 1
                       have y3 := b3.fr 1
                       have b13 := ((B1.out.drew).alloc (.cells #[.string f.1, .bool f.2.done, .slice Ar f.2.blocks.length cr] 55)).keep k3 n1)
        all_goals
          have hfin : Hid (WoInv w (w3.setCell ⟨w.heap.size + 2, 1, none⟩ (.slice av (N + 1) cv)) (w.heap.size + 3) H block (.slice (some ⟨g, o, none⟩) fs.length c) (others s (fs.take (k + 1)))) := by
            rw [ho.out]
            exact WoInv.push (by omega) HI.out B2.out hrl (by rw [← HNN.out]; exact HO.out) HVE.out (HFS.out.mono (fun b hb _ => .inl hb)) ((Keep.refl Nil wr).drew.alloc _) (by rw [← HNN.out]; exact ho3.out) k3 (by simpa using hv3.out)
          go_wp2
          go_roundw
          case rel => exact ⟨k + 1, by omega, by go_num, hfin⟩
          case measure => simp [intOf]; omega
    · obtain rfl : k = fs.length := by omega
      obtain ⟨N, hN⟩ : ∃ N, N = (others s (fs.take fs.length)).length := ⟨_, rfl⟩
      have ho1 := HO.out
      obtain ⟨Av, cv, rfl⟩ := own_form ho1
      rw [← hN] at y1
      have z0 : wr.cell? ⟨w.heap.size + 1, 0, none⟩ = some (.int .i64 0) := b0.at_ 0
      have z1 : wr.cell? ⟨w.heap.size + 1, 1, none⟩ = some (.slice none 0 0) := b0.at_ 1
      have f0 := b0.fr 0
      have f1 := b0.fr 1
      have hfl : Hid (FlAt wr (fun b => H b ∨ w.heap.size ≤ b) (.slice Av N cv) (others s fs)) := by
        have h1 := HI.out
        have : OFl wr (w.heap.size + 3) (fun b => H b ∨ w.heap.size ≤ b) (.slice Av N cv) (others s fs) := by
          rw [List.take_length] at HO HVE hN
          rw [hN]
          rw [List.take_length] at hrl
          exact ⟨rs, hrl, HO.out, HVE.out⟩
        exact this.fl (fun g hg => .inr (by obtain ⟨_, _, ho, _⟩ := this.out; have := own_base ho hg; omega))
      have B0 := Hid.intro_ b0
      clear b0 b1 b2 ho1 hrl hN
      go_wp2
      refine bodyPost_ret (v := .agg #[.int .i64 block, .slice Av N cv]) (by simp [results, Tryz.results75, go_sem, z0, z1]) rfl ?_
      have ks := ((Keep.refl (fun b => b = w.heap.size + 1) wr).setCell (p := ⟨w.heap.size + 1, 0, none⟩) (fun _ => rfl) (.int .i64 block)).setCell (p := ⟨w.heap.size + 1, 1, none⟩) (fun _ => rfl) (.slice Av N cv)
      refine ⟨_, rfl, ⟨_, rfl, hfl.out.far (g := w.heap.size + 1) ks (fun cs t fr hc => ?_)⟩, KK.out.trans ks (fun b hb e => by have : b = w.heap.size + 1 := e; omega)⟩
      have hb := B0.out
      unfold Blk at hb
      rw [hc] at hb
      injection hb with hb
      injection hb with _ hb
      subst hb
      exact ⟨by decide, by decide, by decide⟩
end Go.Proofs.YtadipinnbehhhaaGreatDoor
