/- What a disk holds: State. Disk: Read. -/
import Derived.Test.YtadipinnbehhhaaGreatDoorAsksRowAE
import Derived.Test.YtadipinnbehhhaaGreatDoorAsksRowAB
namespace Go.Proofs.YtadipinnbehhhaaGreatDoor
open Go.RowKit Go.Maps Go.Sort

/-- What stands of State. -/
def StatePost (w : World) (D : DSt) (e : Ending) (w' : World) : Prop :=
  ∃ v gs, e = .returned v ∧ gs.Perm D.files ∧ rises (gs.map (·.1)) ∧ StAt w' (fun b => w.heap.size ≤ b) v D.block gs ∧ Keep Nil w w'
theorem info_file : (Tryz.prog.info? 55).map (fun i => (i.zero, i.size, i.bytes)) = some (some (.agg #[.string ⟨#[]⟩, .bool false, .slice none 0 0]), 3, 48) := by kernel_rfl
/-- What stands of State when k files have come. -/
structure SInv (w wr : World) (b0 : Nat) (block : Int) (done : List (ByteArray × AFile)) : Prop where mk ::
  keep : Keep Nil w wr
  res : Blk wr w.heap.size 28 #[.int .i64 0, .slice none 0 0]
  st : ∃ v, Blk wr (w.heap.size + 1) 28 #[.int .i64 block, v] ∧ OFl wr b0 (fun b => w.heap.size ≤ b) v done
/-- What stands of it in the midst of a file. -/
structure SIn (w wi : World) (b0 B : Nat) (block : Int) (done : List (ByteArray × AFile)) (s : ByteArray) (fd : Bool) (bl : List (List Int)) : Prop where mk ::
  keep : Keep Nil w wi
  res : Blk wi w.heap.size 28 #[.int .i64 0, .slice none 0 0]
  st : ∃ v, Blk wi (w.heap.size + 1) 28 #[.int .i64 block, v] ∧ OFl wi b0 (fun b => w.heap.size ≤ b ∧ b < B) v done ∧ ∀ g, v.ownBlock = some g → g < B
  box : ∃ u, Blk wi B 55 #[.string s, .bool fd, u] ∧ OFs wi B (fun b => B ≤ b) u bl
  lt : w.heap.size + 1 < B
theorem SIn.push {w wi w2 w2' w3 : World} {b0 B : Nat} {block : Int} {done : List (ByteArray × AFile)} {s : ByteArray} {fd : Bool} {bl : List (List Int)} {u v' x : Value} {bs : List Int} {vs0 : List Value}
    (h : SIn w wi b0 B block done s fd bl) (hv : Blk wi B 55 #[.string s, .bool fd, u]) (ho : wi.ownsRow B 161 1 u bl.length vs0)
    (hv0 : ∀ (j : Nat) (u : Value) (bs : List Int), vs0[j]? = some u → bl[j]? = some bs → BsAt wi (fun b => B ≤ b) u bs) (k2 : Keep Nil wi w2) (hb2 : BsAt w2 (fun b => wi.heap.size ≤ b) x bs) (k2' : Keep Nil w2 w2')
    (ho3 : w3.ownsRow B 161 1 v' (bl.length + 1) (vs0 ++ [x])) (k3 : Keep (fun b => u.ownBlock = some b) w2' w3) (hv3 : v'.ownBlock = u.ownBlock ∨ v'.ownBlock = some w2'.heap.size) :
    SIn w (w3.setCell ⟨B, 2, none⟩ v') b0 B block done s fd (bl ++ [bs]) := by
  obtain ⟨a1, a2, ⟨v, a3, a4, a5⟩, _, l1⟩ := h
  have hg := hv.lt
  have kk := k2.then_ k2'
  have hvg : ∀ b, u.ownBlock = some b → B ≤ b := fun b hb => own_base ho hb
  have nvg : ¬ u.ownBlock = some B := fun e => by
    obtain ⟨cur, hc⟩ := own_blk ho e
    exact Blk.ne_ hv hc (by decide) rfl
  have nvg' : ¬ v'.ownBlock = some B := fun e => by
    rcases hv3 with h3 | h3
    · exact nvg (by rw [← h3]; exact e)
    · rw [h3] at e; injection e with e; have := kk.size; omega
  have K : Keep (fun b => B ≤ b) wi (w3.setCell ⟨B, 2, none⟩ v') := ((kk.mono (fun _ _ h => h.elim)).trans (k3.mono (fun b _ hb => hvg b hb)) (fun _ _ h => h)).setCell (p := ⟨B, 2, none⟩) (fun _ => Nat.le_refl _) _
  have low : ∀ b, b < B → ¬ (B ≤ b) := fun b hb => by omega
  refine ⟨a1.trans K (fun b hb e => by omega), a2.keep K (low _ (by omega)), ⟨v, a3.keep K (low _ l1), a4.keep K (fun g hg => low _ (a5 g hg)) (fun b hb _ => low b hb.2), a5⟩, ⟨v', ?_, ?_⟩, l1⟩
  · exact ((hv.keep kk (fun h => h)).keep k3 nvg).set_ 2 v'
  · have hw3 : OFs w3 B (fun b => B ≤ b) v' (bl ++ [bs]) := by
      refine OFs.push (w1 := w2') (vs := vs0) (v := u) (fun j u bs hu hb => (hv0 j u bs hu hb).nil kk) (by simpa using ho.1) ((hb2.nil k2').mono (fun b hb _ => by omega)) ho3 k3 (fun y hy cs fr hc => ?_)
      obtain ⟨cur, hc2⟩ := own_blk ho hy
      have h1 := hc2.keep kk (fun h => h)
      unfold Blk at h1
      rw [hc] at h1
      injection h1 with h1
      injection h1 with _ h1
      exact absurd h1 (by decide)
    obtain ⟨vs1, o1, o2⟩ := hw3.out
    refine ⟨vs1, own_keep o1 ((Keep.refl (fun b => b = B) w3).setCell (p := ⟨B, 2, none⟩) (fun _ => rfl) _) (fun y hy e => nvg' (by rw [← show y = B from e]; exact hy)), fun j u bs hu hb => ?_⟩
    refine (o2 j u bs hu hb).far (g := B) ((Keep.refl (fun b => b = B) w3).setCell (p := ⟨B, 2, none⟩) (fun _ => rfl) _) (fun cs fr hc => ?_)
    have h1 := (hv.keep kk (fun h => h)).keep k3 nvg
    unfold Blk at h1
    rw [hc] at h1
    injection h1 with h1
    injection h1 with _ h1
    exact absurd h1 (by decide)
theorem own_form {w : World} {base : Nat} {e : TypeId} {size n : Nat} {v : Value} {xs : List Value} (h : w.ownsRow base e size v n xs) : ∃ A c, v = .slice A n c := by
  rcases h.2 with ⟨e, h0⟩ | ⟨g, cap, cur, e, _⟩
  · exact ⟨none, 0, by rw [e, h0]⟩
  · exact ⟨_, _, e⟩
theorem own_at {w : World} {base n c j : Nat} {e : TypeId} {A : Option Addr} {u : Value} {xs : List Value} (h : w.ownsRow base e 1 (.slice A n c) n xs) (hj : xs[j]? = some u) : ∃ g, A = some ⟨g, 0, none⟩ ∧ w.cell? ⟨g, j, none⟩ = some u := by
  obtain ⟨ad, e, hc⟩ := own_rd h j u hj
  rcases h.2 with ⟨e2, h0⟩ | ⟨g, cap, cur, e2, _⟩
  · injection e2 with e2; rw [e] at e2; cases e2
  · injection e2 with e2
    rw [e] at e2
    injection e2 with e2
    subst e2
    rw [add_at, Nat.zero_add] at hc
    exact ⟨g, e, hc⟩
theorem SIn.done {w wi w1 : World} {b0 B : Nat} {block : Int} {done : List (ByteArray × AFile)} {f : ByteArray × AFile} {v v' u : Value} {rs : List Value} {o : Obj} (hb0 : w.heap.size ≤ b0) (h : SIn w wi b0 B block done f.1 f.2.done f.2.blocks)
    (hv : Blk wi (w.heap.size + 1) 28 #[.int .i64 block, v]) (hrl : rs.length = done.length) (ho : wi.ownsRow b0 55 3 v done.length (fileCells done rs))
    (hve : ∀ (j : Nat) (r : Value) (f : ByteArray × AFile), rs[j]? = some r → done[j]? = some f → FsAt wi (fun b => w.heap.size ≤ b ∧ b < B) r f.2.blocks) (hof : OFs wi B (fun b => B ≤ b) u f.2.blocks)
    (ho1 : w1.ownsRow b0 55 3 v' (done.length + 1) (fileCells done rs ++ [.string f.1, .bool f.2.done, u])) (k1 : Keep (fun b => v.ownBlock = some b) (wi.alloc o) w1) (hv1 : v'.ownBlock = v.ownBlock ∨ v'.ownBlock = some (wi.alloc o).heap.size) :
    SInv w (w1.setCell ⟨w.heap.size + 1, 1, none⟩ v') b0 block (done ++ [f]) := by
  obtain ⟨a1, a2, _, _, l1⟩ := h
  have ka := (Keep.refl Nil wi).alloc o
  have hvg : ∀ b, v.ownBlock = some b → w.heap.size ≤ b := fun b hb => Nat.le_trans hb0 (own_base ho hb)
  have nst : ∀ {b : Nat} {cs : Array Value}, Blk wi b 28 cs → ¬ v.ownBlock = some b := fun hb e => by
    obtain ⟨cur, hc⟩ := own_blk ho e
    exact Blk.ne_ hb hc (by decide) rfl
  have nst' : ∀ {b : Nat} {cs : Array Value}, Blk wi b 28 cs → ¬ v'.ownBlock = some b := fun {b cs} hb e => by
    rcases hv1 with h3 | h3
    · exact nst hb (by rw [← h3]; exact e)
    · rw [h3] at e; injection e with e; have := ka.size; have := hb.lt; omega
  have kw1 : Keep (fun b => v.ownBlock = some b) wi w1 := (ka.mono (fun _ _ h => h.elim)).then_ k1
  have ks := (Keep.refl (fun b => b = w.heap.size + 1) w1).setCell (p := ⟨w.heap.size + 1, 1, none⟩) (fun _ => rfl) v'
  refine ⟨?_, ?_, v', ?_, ?_⟩
  · refine (a1.trans kw1 (fun b hb e => by have := hvg b e; omega)).trans ks (fun b hb e => by have : b = w.heap.size + 1 := e; omega)
  · exact (a2.keep kw1 (nst a2)).keep ks (fun e => by have : w.heap.size = w.heap.size + 1 := e; omega)
  · exact (hv.keep kw1 (nst hv)).set_ 1 v'
  · have hpush : OFl w1 b0 (fun b => w.heap.size ≤ b) v' (done ++ [f]) := by
      refine OFl.push (w1 := wi.alloc o) (rs := rs) (v := v) (fun j r f hr hf => ((hve j r f hr hf).nil ka).mono (fun b hb _ => hb.1)) hrl (own_keep ho ka (fun _ _ h => h)) ?_ ho1 k1
      refine ((hof.fs (fun g hg => ?_)).nil ka).mono (fun b hb _ => by omega)
      obtain ⟨vs, hoo, _⟩ := hof.out
      exact own_base hoo hg
    have hst1 := hv.keep kw1 (nst hv)
    obtain ⟨rs1, g1, g2, g3⟩ := hpush.out
    refine ⟨rs1, g1, own_keep g2 ks (fun g hg e => nst' hv (by rw [← show g = w.heap.size + 1 from e]; exact hg)), fun j r f hr hf => ?_⟩
    refine (g3 j r f hr hf).far (g := w.heap.size + 1) ks (fun cs fr hc => ?_) (fun cs fr hc => ?_)
    · unfold Blk at hst1; rw [hc] at hst1; injection hst1 with hst1; injection hst1 with _ hst1; exact absurd hst1 (by decide)
    · unfold Blk at hst1; rw [hc] at hst1; injection hst1 with hst1; injection hst1 with _ hst1; exact absurd hst1 (by decide)
/-- A row of names reads as names. -/
theorem names_at {w : World} {base : Nat} {v : Value} {T : List (List UInt8)} (ho : w.ownsRow base 9 1 v T.length (T.map encStr)) : ∃ A c, v = .slice A T.length c ∧ ∀ j t, T[j]? = some t → ∃ g, A = some ⟨g, 0, none⟩ ∧ w.cell? ⟨g, j, none⟩ = some (.string ⟨t.toArray⟩) := by
  have hr := ho
  rcases ho.2 with ⟨e, h0⟩ | ⟨g, cap, cur, e, hb, hh, hle, hm, hs, ht⟩
  · subst e
    refine ⟨none, 0, by rw [h0], fun j t hj => ?_⟩
    have := (List.getElem?_eq_some_iff.1 hj).1
    omega
  · subst e
    refine ⟨some ⟨g, 0, none⟩, cap, rfl, fun j t hj => ⟨g, rfl, ?_⟩⟩
    obtain ⟨ad, e, hc⟩ := own_rd hr j (encStr t) (by rw [List.getElem?_map, hj]; rfl)
    injection e with e
    subst e
    rw [add_at, Nat.zero_add] at hc
    exact hc
theorem fpos_at {s : ByteArray} : ∀ {fs : List (ByteArray × AFile)} {i : Nat} {f : AFile}, (fs.map (·.1)).Nodup → fs[i]? = some (s, f) → fpos s fs = some (i, f)
  | [], _, _, _, h => by simp at h
  | (k, g) :: fs, 0, f, _, h => by
    simp only [List.getElem?_cons_zero, Option.some.injEq, Prod.mk.injEq] at h
    obtain ⟨rfl, rfl⟩ := h
    unfold fpos
    rw [if_pos rfl]
  | (k, g) :: fs, i + 1, f, hn, h => by
    simp only [List.map_cons, List.nodup_cons] at hn
    have ih := fpos_at hn.2 (show fs[i]? = some (s, f) by simpa using h)
    have hne : ¬ s = k := by
      rintro rfl
      exact hn.1 (List.mem_map.2 ⟨_, List.mem_of_getElem? (show fs[i]? = some (s, f) by simpa using h), rfl⟩)
    unfold fpos
    rw [if_neg hne, ih]
    rfl
theorem links_names : ∀ (fs : List (ByteArray × AFile)) (rs : List (Nat × Value)), rs.length = fs.length → (links fs rs).map (·.1) = fs.map (·.1)
  | [], [], _ => rfl
  | f :: fs, r :: rs, h => by
    have := links_names fs rs (by simpa using h)
    show f.1 :: (links fs rs).map (·.1) = _
    rw [this]
    rfl
/-- Sorted names, no two the same: they rise, and are the files' in another order. -/
theorem sorted_files {fs : List (ByteArray × AFile)} {ss : List (List UInt8)} (hp : ss.Perm (fs.map fun p => p.1.data.toList)) (hn : (fs.map (·.1)).Nodup) :
    ∃ gs : List (ByteArray × AFile), gs.Perm fs ∧ rises (gs.map (·.1)) ∧ gs.map (fun p => p.1.data.toList) = ss.mergeSort leB := by
  have hT : (ss.mergeSort leB).Perm (fs.map fun p => p.1.data.toList) := (List.mergeSort_perm ss leB).trans hp
  obtain ⟨gs, h1, h2⟩ := perm_map_ex (fun p : ByteArray × AFile => p.1.data.toList) hT rfl
  refine ⟨gs, h1, ?_, h2⟩
  have hs : (ss.mergeSort leB).Pairwise (fun a b => leB a b = true) := List.pairwise_mergeSort (fun a b c h1 h2 => by simp only [leB, decide_eq_true_eq] at *; exact List.le_trans h1 h2) (fun a b => by simp only [leB, Bool.or_eq_true, decide_eq_true_eq]; exact List.le_total a b) ss
  rw [← h2, List.pairwise_map] at hs
  have hn2 : (gs.map (·.1)).Nodup := ((h1.map (·.1)).nodup_iff).2 hn
  unfold rises
  rw [List.pairwise_map]
  have hn3 : gs.Pairwise (fun a b => a.1 ≠ b.1) := by
    have := hn2
    unfold List.Nodup at this
    rwa [List.pairwise_map] at this
  refine (hs.and hn3).imp fun {a b} hab => ?_
  obtain ⟨hle, hne⟩ := hab
  simp only [leB, decide_eq_true_eq] at hle
  rw [Lib.toList_data, Lib.toList_data]
  rcases List.le_iff_lt_or_eq.1 hle with h | h
  · exact h
  · exact (hne (by cases a; cases b; simp_all [ByteArray.ext_iff, Array.toList_inj])).elim
set_option maxRecDepth 100000 in
set_option maxHeartbeats 4000000 in
theorem dstate_any (d : Nat) (D : DSt) (R : DRep) (F : Nat → Prop) (w : World) (h : DiskAt w F d D R) (hs : ∀ f ∈ D.files, f.1.size ≤ 32) (hlen : D.files.length ≤ 1099511627776) :
    Calls Tryz.prog 17 #[.pointer (some ⟨d, 0, none⟩)] w (StatePost w D) := by
  have c1 : w.cell? ⟨d, 1, none⟩ = some (.int .i64 D.block) := h.blk.at_ 1
  have c3 : w.cell? ⟨d, 3, none⟩ = some (.map (some R.mb)) := h.blk.at_ 3
  have ld := h.blk.lt
  have lm := h.map.lt
  have hll : (links D.files R.reps).length = D.files.length := by unfold links; rw [List.length_zipWith, h.len]; omega
  have hlk := links_names D.files R.reps h.len
  have hD := Hid.intro_ h
  have k0 : Keep Nil w ((w.alloc (.cells #[.int .i64 0, .slice none 0 0] 28)).alloc (.cells #[.int .i64 D.block, .slice none 0 0] 28)) := ((Keep.refl Nil w).alloc _).alloc _
  obtain ⟨W0, hW0⟩ : ∃ W, W = (w.alloc (.cells #[.int .i64 0, .slice none 0 0] 28)).alloc (.cells #[.int .i64 D.block, .slice none 0 0] 28) := ⟨_, rfl⟩
  rw [← hW0] at k0
  have hb1 : Blk W0 (w.heap.size + 1) 28 #[.int .i64 D.block, .slice none 0 0] := by rw [hW0]; exact Blk.new_at _ _ _ (by simp)
  have hb0 : Blk W0 w.heap.size 28 #[.int .i64 0, .slice none 0 0] := by rw [hW0]; exact (Blk.new w _ _).alloc _
  have hzW : W0.heap.size = w.heap.size + 1 + 1 := by rw [hW0]; simp
  obtain ⟨D0, hown, hperm, hsz⟩ := ((h.nil k0).map).owns (fun p hp => by
    have : p.1 ∈ (links D.files R.reps).map (·.1) := List.mem_map.2 ⟨p, hp, rfl⟩
    rw [hlk] at this
    obtain ⟨f, hf, e⟩ := List.mem_map.1 this
    have := hs f hf
    rw [← e]
    unfold maxLen
    omega) (by rw [hll]; unfold maxLen; omega)
  have hK := callsIn_wide.1 (Tryz.maps_Keys_70 (some R.mb) W0)
  have hS := callsIn_wide.1 (Tryz.slices_Sorted_keys_69_70 R.mb _ D0 ptrR W0 hown (by rw [hsz, hll]; unfold maxLen; omega) (by rw [hsz, hll]; omega))
  rw [hzW] at hS
  have HS := Hid.intro_ hS
  have HK := Hid.intro_ hK
  have HP : Hid (∀ ss : List (List UInt8), ss.Perm (strKeys D0) → ∃ gs : List (ByteArray × AFile), gs.Perm D.files ∧ rises (gs.map (·.1)) ∧ gs.map (fun p => p.1.data.toList) = ss.mergeSort leB) := fun ss hss => by
    refine sorted_files (hss.trans ?_) h.ok.names
    have : ((links D.files R.reps).map fun p => p.1.data.toList) = D.files.map fun p => p.1.data.toList := by
      have := congrArg (List.map fun s : ByteArray => s.data.toList) hlk
      rw [List.map_map, List.map_map] at this
      exact this
    rw [← this]
    exact hperm
  have B0 := Hid.intro_ hb0
  have B1 := Hid.intro_ hb1
  have hk0 := Hid.intro_ k0
  have HW := Hid.intro_ hW0
  clear hS hK hown hperm hsz hll hlk k0 hb0 hb1
  go_enter Tryz.func17, Tryz.ntmps17
  go_wp2_with fail
  rw [← HW.out]
  refine HK.out.mono ?_
  rintro e w1 ⟨rfl, rfl⟩
  go_wp2_with fail
  rw [← HW.out]
  refine HS.out.mono ?_
  rintro e w2 ⟨v0, ss, rfl, hss, hrow, _, hbel⟩
  have kw2 : Keep Nil w w2 := (hk0.out.alloc _).then_ (Keep.of_below hbel (fun b h1 h2 => absurd h2 (by omega)))
  have kW2 : Keep Nil W0 w2 := ((Keep.refl Nil W0).alloc _).then_ (Keep.of_below hbel (fun b h1 h2 => absurd h2 (by omega)))
  obtain ⟨gs, hg1, hg2, hg3⟩ := HP.out ss hss
  have hsl : (ss.mergeSort leB).length = ss.length := (List.mergeSort_perm ss leB).length_eq
  have hgl : gs.length = ss.length := by rw [← hsl, ← hg3, List.length_map]
  have hgf : gs.length = D.files.length := hg1.length_eq
  rw [← hsl] at hrow
  obtain ⟨A, cA, hA, hAT⟩ := names_at hrow
  subst hA
  rw [hsl, ← hgl] at *
  have HG1 := Hid.intro_ hg1
  have HG2 := Hid.intro_ hg2
  have hnm : Hid (∀ k f, gs[k]? = some f → ∃ g, A = some ⟨g, 0, none⟩ ∧ w2.cell? ⟨g, k, none⟩ = some (.string f.1) ∧ w.heap.size + 1 < g) := fun k f hk => by
    have ht : (ss.mergeSort leB)[k]? = some f.1.data.toList := by rw [← hg3, List.getElem?_map, hk]; rfl
    obtain ⟨g, e, hc⟩ := hAT k _ ht
    refine ⟨g, e, by simpa using hc, ?_⟩
    have := (hrow.lt g (by rw [e]; rfl)).1
    simp at this
    omega
  have b1 := Hid.intro_ (B1.out.keep kW2 (fun h => h))
  have b0 := Hid.intro_ (B0.out.keep kW2 (fun h => h))
  have hgl2 : gs.length ≤ 1099511627776 := by omega
  have KW := Hid.intro_ kw2
  have hz2w := Hid.intro_ kw2.size
  clear hrow hbel hg1 hg2 hg3 hAT kw2 kW2 hss hsl hgl hgf
  go_wp2_with fail
  have hI0 : Hid (SInv w w2 w2.heap.size D.block (gs.take 0)) := ⟨KW.out, b0.out, _, b1.out, OFl.nil_ _ _ _⟩
  go_loopw [22] (fun i wr => ∃ k : Nat, k ≤ gs.length ∧ i = .int .i64 k ∧ Keep (fun b => b = w.heap.size + 1) w2 wr ∧ Hid (SInv w wr w2.heap.size D.block (gs.take k))) (fun i _ => gs.length - (intOf i).toNat)
  case atStart => exact ⟨0, Nat.zero_le _, rfl, Keep.refl _ _, hI0⟩
  case round =>
    obtain ⟨k, hk, rfl, kwr, HI⟩ := hrel
    obtain ⟨wo, rfl⟩ : ∃ x : World, x = wr := ⟨_, rfl⟩
    by_cases hlt : k < gs.length
    · obtain ⟨f, hf⟩ : ∃ f, gs[k]? = some f := ⟨_, List.getElem?_eq_getElem hlt⟩
      obtain ⟨g, rfl, hc, hgz⟩ := hnm.out k f hf
      have hc' := cell_keep hc kwr (fun e => by have : g = w.heap.size + 1 := e; omega)
      have hko := HI.out.keep
      have hDo := hD.out.nil hko
      obtain ⟨i, hi⟩ := List.mem_iff_getElem?.1 (HG1.out.mem_iff.1 (List.mem_of_getElem? hf))
      obtain ⟨r, hr, _, hpos⟩ := (pos_links f.1 D.files R.reps hDo.len).2 i f.2 (fpos_at hDo.ok.names hi)
      have hlook := hDo.map.look Tryz.underlying151 Tryz.underlying9 (zero_file _) f.1
      rw [hpos] at hlook
      simp only [Option.map_some, Option.getD_some] at hlook
      have hfa := hDo.file i f r hi hr
      obtain ⟨vs, hrow, _, hvs⟩ := hfa.row
      obtain ⟨A2, c2, hr2⟩ := own_form hrow
      have hbl := blocks_le hDo.ok hi
      have hu1 := hDo.ok.le
      have hr1 := hDo.ok.r1
      have hb0 := hDo.ok.b0
      have hb1 := hDo.ok.b1
      have hsz : ∀ b ∈ f.2.blocks, 1 ≤ b.length ∧ b.length ≤ 65536 := fun b hb => by
        have := hDo.ok.size f (List.mem_of_getElem? hi) b hb
        omega
      have d3 : wo.cell? ⟨d, 3, none⟩ = some (.map (some R.mb)) := hDo.blk.at_ 3
      obtain ⟨S, hS⟩ : ∃ S : Int, S = if f.2.done = true then 1 else 0 := ⟨_, rfl⟩
      have r0 : wo.cell? ⟨r.1, 0, none⟩ = some (.int .i64 S) := by rw [hS]; exact hfa.blk.at_ 0
      have r1 : wo.cell? ⟨r.1, 1, none⟩ = some (.slice A2 f.2.blocks.length c2) := by rw [← hr2]; exact hfa.blk.at_ 1
      have lr := hfa.blk.lt
      have q1 : (S == 1) = f.2.done := by rw [hS]; cases f.2.done <;> rfl
      obtain ⟨dn, hdn⟩ : ∃ dn, dn = f.2.done := ⟨_, rfl⟩
      rw [← hdn] at q1
      have HDN := Hid.intro_ hdn
      have HF := Hid.intro_ hf
      have HVS := Hid.intro_ hvs
      have HROW := Hid.intro_ hrow
      have HSZ := Hid.intro_ hsz
      have HR2 := Hid.intro_ hr2
      obtain ⟨v, hbv, hofl⟩ := HI.out.st
      have HBV := Hid.intro_ hbv
      have HOFL := Hid.intro_ hofl
      have lst := hbv.lt
      have hIn0 : Hid (SIn w (wo.alloc (.cells #[.string f.1, .bool dn, .slice none 0 0] 55)) w2.heap.size wo.heap.size D.block (gs.take k) f.1 dn (f.2.blocks.take 0)) := by
        have ka := (Keep.refl Nil wo).alloc (.cells #[.string f.1, .bool dn, .slice none 0 0] 55)
        refine ⟨hko.then_ ka, HI.out.res.keep ka (fun h => h), ⟨v, hbv.keep ka (fun h => h), (hofl.mono (fun b hb hl => ⟨hb, hl⟩)).nil ka, fun g' hg' => ?_⟩, ⟨_, Blk.new _ _ _, OFs.nil_ _ _ _⟩, lst⟩
        obtain ⟨rs, _, ho, _⟩ := hofl.out
        exact (ho.lt g' hg').2
      clear hS hdn hi hpos hr hvs hrow hsz hr2 hbv hofl hf hfa
      go_wp2_with fail
      go_loopw [44] (fun j wi => ∃ m : Nat, m ≤ f.2.blocks.length ∧ j = .int .i64 m ∧ Keep Nil wo wi ∧ Hid (SIn w wi w2.heap.size wo.heap.size D.block (gs.take k) f.1 dn (f.2.blocks.take m))) (fun j _ => f.2.blocks.length - (intOf j).toNat)
      case atStart => exact ⟨0, Nat.zero_le _, rfl, (Keep.refl Nil wo).alloc _, hIn0⟩
      case round =>
        obtain ⟨m, hm, rfl, kwi, HIN⟩ := hrel
        by_cases hmt : m < f.2.blocks.length
        · obtain ⟨bs, hbs⟩ : ∃ bs, f.2.blocks[m]? = some bs := ⟨_, List.getElem?_eq_getElem hmt⟩
          obtain ⟨x, hx⟩ : ∃ x, vs[m]? = some x := ⟨_, List.getElem?_eq_getElem (by have := HROW.out.1; omega)⟩
          have hbx := HVS.out m x bs hx hbs
          obtain ⟨a3, c3, rfl, hrd3, hF3, ht3⟩ := hbx.out
          have hrow2 := HROW.out
          rw [HR2.out] at hrow2
          obtain ⟨ga, rfl, p4⟩ := own_at hrow2 hx
          have p5 := cell_keep p4 kwi (fun h => h)
          have hcl := clone_rd a3 c3 bs wr.drew (hrd3.keep (kwi.drew) (fun _ _ _ h => h)) (HSZ.out bs (List.mem_of_getElem? hbs)).2
          obtain ⟨u, hub, hof⟩ := HIN.out.box
          obtain ⟨vs0, ho0, hv0⟩ := hof.out
          have hml : (f.2.blocks.take m).length = m := by rw [List.length_take]; omega
          rw [hml] at ho0
          have huo : u.oneCell' = true := by rcases ho0.2 with ⟨e, _⟩ | ⟨_, _, _, e, _⟩ <;> rw [e] <;> rfl
          have cu : wr.cell? ⟨wo.heap.size, 2, none⟩ = some u := hub.at_ 2
          have lwo := hub.lt
          have nug : ¬ u.ownBlock = some wo.heap.size := fun e => by
            obtain ⟨cur, hc⟩ := own_blk ho0 e
            exact Blk.ne_ hub hc (by decide) rfl
          have HUB := Hid.intro_ hub
          have HO := Hid.intro_ ho0
          have HV0 := Hid.intro_ hv0
          have HCL := Hid.intro_ hcl
          have HBS := Hid.intro_ hbs
          have hml2 := Hid.intro_ hml
          have hm40 : m ≤ 1099511627776 := by omega
          obtain ⟨i1, hi1, hy0, hy1, hy2⟩ := info_parts info_bytes
          clear hbs hx hbx hrow2 p4 hrd3 ht3 hcl hub ho0 hv0 hml hof
          go_wp2_with fail
          go_region_law (first
            | (refine step_append_own rfl (.tmp 49) (.tmp 52) 53 rfl wo.heap.size 161 i1 (.slice none 0 0) 1 24 Tryz.underlying53 hi1 hy0 hy1 hy2 rfl (by decide) u m vs0 (by simp [Act.eval]) (own_keep HO.out (((Keep.refl Nil wr).drew.then_ k2).alloc _) (fun g _ h => h)) ⟨wq.heap.size, 0, none⟩ 1 1 [.slice A4 bs.length c4] (by simp [Act.eval]) rfl (one_new _ _ _) (by simp [Value.oneCell']) (by unfold maxLen; omega) (by omega) (by have := k2.size; have := HUB.out.lt; simp at *; omega) ?_; intro av cv3 w3 ho3 k3 hv3
               have b3 := ((HUB.out.keep ((Keep.refl Nil wr).drew.then_ k2) (fun h => h)).alloc (.cells #[.slice A4 bs.length c4] 161)).keep k3 nug
               have x3 : w3.cell? ⟨wo.heap.size, 2, none⟩ = some u := b3.at_ 2
               have y3 := b3.fr 2)
            | (go_simp; go_at_call 71; refine HCL.out.mono ?_; rintro e wq ⟨u2, rfl, hb2, k2⟩
               obtain ⟨A4, c4, rfl, _, _, _, _⟩ := hb2.out
               have cu2 := cell_keep (w := wr.drew) cu k2 (fun h => h)
               have lw2 : wo.heap.size < wq.heap.size := cell_lt cu2
               have HB2 := Hid.intro_ hb2
               clear hb2))
          all_goals
            have hfin : Keep Nil wo (w3.setCell ⟨wo.heap.size, 2, none⟩ (.slice av (m + 1) cv3)) ∧ SIn w (w3.setCell ⟨wo.heap.size, 2, none⟩ (.slice av (m + 1) cv3)) w2.heap.size wo.heap.size D.block (gs.take k) f.1 dn (f.2.blocks.take (m + 1)) := by
              have htk : f.2.blocks.take (m + 1) = f.2.blocks.take m ++ [bs] := by rw [List.take_add_one, HBS.out]; rfl
              rw [htk]
              have hpush := SIn.push HIN.out HUB.out (by rw [hml2.out]; exact HO.out) HV0.out ((Keep.refl Nil wr).drew.then_ k2) HB2.out ((Keep.refl Nil wq).alloc _) (by rw [hml2.out]; exact ho3.out) k3 (by simpa using hv3.out)
              refine ⟨?_, hpush⟩
              refine kwi.trans ((((Keep.refl Nil wr).drew.then_ k2).alloc _).mono (fun _ _ h => h.elim) |>.trans (k3.mono (fun b _ hb => (own_base HO.out hb : wo.heap.size ≤ b))) (fun _ _ h => h) |>.setCell (p := ⟨wo.heap.size, 2, none⟩) (fun _ => Nat.le_refl _) _) (fun b hb e => ?_)
              have : wo.heap.size ≤ b := e
              omega
            have KC := Hid.intro_ hfin.1
            have HI2 := Hid.intro_ hfin.2
            clear hfin
            go_wp2
            go_roundw
            case rel => exact ⟨m + 1, by omega, by go_num, KC.out, HI2⟩
            case measure => simp [intOf]; omega
        · obtain rfl : m = f.2.blocks.length := by omega
          have hI := HIN.out
          rw [List.take_length, HDN.out] at hI
          obtain ⟨vv, hb1, hofl1, hvlow⟩ := hI.st
          obtain ⟨u, hub, hof⟩ := hI.box
          obtain ⟨rs, hrl, ho0, hve⟩ := hofl1.out
          have hkl : (gs.take k).length = k := by rw [List.length_take]; omega
          rw [hkl] at ho0
          obtain ⟨vs1, hou, _⟩ := hof.out
          obtain ⟨Au, cu, rfl⟩ := own_form hou
          have hvo : vv.oneCell' = true := by rcases ho0.2 with ⟨e, _⟩ | ⟨_, _, _, e, _⟩ <;> rw [e] <;> rfl
          have x1 : wr.cell? ⟨w.heap.size + 1, 1, none⟩ = some vv := hb1.at_ 1
          have xf := hb1.fr 1
          have x2 : wr.cell? ⟨wo.heap.size, 0, none⟩ = some (.string f.1) := hub.at_ 0
          have x3 : wr.cell? ⟨wo.heap.size, 1, none⟩ = some (.bool f.2.done) := hub.at_ 1
          have x4 : wr.cell? ⟨wo.heap.size, 2, none⟩ = some (.slice Au f.2.blocks.length cu) := hub.at_ 2
          have lw1 := hb1.lt
          have nvst : ¬ vv.ownBlock = some (w.heap.size + 1) := fun e => by
            obtain ⟨cur, hc⟩ := own_blk ho0 e
            exact Blk.ne_ hb1 hc (by decide) rfl
          have lwo := hub.lt
          have hbase := hI.keep.size
          have HO := Hid.intro_ ho0
          have HVE := Hid.intro_ hve
          have HOF := Hid.intro_ hof
          have HB1 := Hid.intro_ hb1
          have HII := Hid.intro_ hI
          have hkl2 := Hid.intro_ hkl
          obtain ⟨fd, hfd⟩ : ∃ b, b = f.2.done := ⟨_, rfl⟩
          rw [← hfd] at x3
          have HFD := Hid.intro_ hfd
          obtain ⟨i2, hi2, hz0, hz1, hz2⟩ := info_parts info_file
          clear ho0 hve hof hb1 hI hkl hub hou hfd hofl1
          go_wp2_with (at_builtin; refine wpList_append_own_at _ rfl (.tmp 57) (.tmp 59) 26 rfl w2.heap.size 55 i2 (.agg #[.string ⟨#[]⟩, .bool false, .slice none 0 0]) 3 48 Tryz.underlying26 hi2 hz0 hz1 hz2 rfl (by decide) vv k (fileCells (gs.take k) rs) (by simp [Act.eval]) (own_keep HO.out ((Keep.refl Nil _).alloc _) (fun g _ h => h)) ⟨wr.heap.size, 0, none⟩ 1 1 [.string f.1, .bool fd, .slice Au f.2.blocks.length cu] (by simp [Act.eval]) rfl (news_new rfl) (by simp [Value.oneCell']) (by unfold maxLen; omega) (by omega) (by have := kwr.size; have := kwi.size; simp; omega) ?_; intro s1 w1 ho1 hg1 _ hs1
                       have k1 := Keep.of_grown hg1
                       have kx : Keep (fun b => vv.ownBlock = some b) wr w1 := (((Keep.refl Nil wr).alloc _).mono (fun _ _ h => h.elim)).then_ k1
                       have bst := HB1.out.keep kx nvst
                       have y1 : w1.cell? ⟨w.heap.size + 1, 1, none⟩ = some vv := bst.at_ 1
                       have yf := bst.fr 1
                       obtain ⟨av, cv, rfl⟩ := own_form ho1
                       have HO1 := Hid.intro_ ho1
                       have HS1 := Hid.intro_ hs1
                       clear ho1 hs1 hg1)
          have hfin : Hid (SInv w (w1.setCell ⟨w.heap.size + 1, 1, none⟩ (.slice av (k + 1) cv)) w2.heap.size D.block (gs.take (k + 1))) := by
            have htk : gs.take (k + 1) = gs.take k ++ [f] := by rw [List.take_add_one, HF.out]; rfl
            rw [htk]
            exact SIn.done hz2w.out HII.out HB1.out hrl (by rw [hkl2.out]; exact HO.out) HVE.out HOF.out (by rw [hkl2.out, ← HFD.out]; exact HO1.out) k1 (by simpa using HS1.out)
          have hkeep : Keep (fun b => b = w.heap.size + 1) w2 (w1.setCell ⟨w.heap.size + 1, 1, none⟩ (.slice av (k + 1) cv)) := by
            refine ((kwr.then_ (kwi.mono (fun _ _ h => h.elim))).trans (kx.mono (G := fun b => vv.ownBlock = some b) (fun _ _ h => h)) (fun b hb e => ?_)).setCell (p := ⟨w.heap.size + 1, 1, none⟩) (fun _ => rfl) _
            have := own_base HO.out e
            omega
          go_roundw
          case rel => exact ⟨k + 1, by omega, by go_num, hkeep, hfin⟩
          case measure => simp [intOf]; omega
    · obtain rfl : k = gs.length := by omega
      have hI := HI.out
      rw [List.take_length] at hI
      obtain ⟨v, hbv, hofl⟩ := hI.st
      obtain ⟨rs, hrl, ho0, hve⟩ := hofl.out
      have ho1 := ho0
      obtain ⟨Av, cv, rfl⟩ := own_form ho1
      have x0 : wo.cell? ⟨w.heap.size + 1, 0, none⟩ = some (.int .i64 D.block) := hbv.at_ 0
      have x1 : wo.cell? ⟨w.heap.size + 1, 1, none⟩ = some (.slice Av gs.length cv) := hbv.at_ 1
      have z0 : wo.cell? ⟨w.heap.size, 0, none⟩ = some (.int .i64 0) := hI.res.at_ 0
      have z1 : wo.cell? ⟨w.heap.size, 1, none⟩ = some (.slice none 0 0) := hI.res.at_ 1
      have f0 := hI.res.fr 0
      have f1 := hI.res.fr 1
      have hfl : Hid (FlAt wo (fun b => w.heap.size ≤ b) (.slice Av gs.length cv) gs) := hofl.fl (fun g hg => Nat.le_trans hz2w.out (own_base ho1 hg))
      have HII := Hid.intro_ hI
      clear hI hbv hofl ho0 hve ho1
      go_wp2
      refine bodyPost_ret (v := .agg #[.int .i64 D.block, .slice Av gs.length cv]) (by simp [results, Tryz.results17, go_sem, z0, z1]) rfl ?_
      have k := ((Keep.refl (fun b => b = w.heap.size) wo).setCell (p := ⟨w.heap.size, 0, none⟩) (fun _ => rfl) (.int .i64 D.block)).setCell (p := ⟨w.heap.size, 1, none⟩) (fun _ => rfl) (.slice Av gs.length cv)
      refine ⟨_, gs, rfl, HG1.out, HG2.out, ⟨_, rfl, hfl.out.far (g := w.heap.size) k (fun cs t fr hc => ?_)⟩, ?_⟩
      · have hb := HII.out.res
        unfold Blk at hb
        rw [hc] at hb
        injection hb with hb
        injection hb with _ hb
        subst hb
        exact ⟨by decide, by decide, by decide⟩
      · exact HII.out.keep.trans k (fun b hb e => by have : b = w.heap.size := e; omega)
end Go.Proofs.YtadipinnbehhhaaGreatDoor
namespace Go.Proofs.YtadipinnbehhhaaGreatDoor
open Go.RowKit

def DSt.readOne (D : DSt) : DSt := { D with reads := wrap64 (D.reads + 1) }
/-- What Read comes to: the disk, the number, the bytes. -/
def DSt.read (D : DSt) (s : ByteArray) (i : Int) : DSt × Int × Option (List Int) := match D.perr s with
  | some k => (D, errNo k, none)
  | none => match fpos s D.files with
    | none => (D, 0, none)
    | some (_, f) => if f.done = false then (D, errNo 5, none) else if i < 0 ∨ (f.blocks.length : Int) ≤ i then (D, errNo 6, none) else match D.fate true with
      | .done => (D.numbered.readOne, 0, f.blocks[i.toNat]?)
      | .fault => (D.faulted, 9, none)
      | .cut _ => (D.numbered.cutOff, 10, none)
/-- What stands of Read. -/
def ReadPost (d : Nat) (F : Nat → Prop) (w : World) (q : DSt × Int × Option (List Int)) (e : Ending) (w' : World) : Prop :=
  ∃ u, e = .returned (.tuple #[u, .int .i64 q.2.1]) ∧ DiskTo d F q.1 w w' ∧ ((q.2.2 = none ∧ u = .slice none 0 0) ∨ ∃ bs, q.2.2 = some bs ∧ BsAt w' (fun b => w.heap.size ≤ b) u bs)
/-- What the inner function of Read leaves. -/
def ReadMid (d bo : Nat) (F : Nat → Prop) (D : DSt) (R : DRep) (bs : List Int) (w w' : World) : Prop :=
  DiskAt w' F d D.readOne R ∧ Keep (fun b => b = d ∨ b = bo) w w' ∧ ∃ u, w'.cell? ⟨bo, 0, none⟩ = some u ∧ BsAt w' (fun b => w.heap.size ≤ b) u bs
set_option maxRecDepth 100000 in
set_option maxHeartbeats 1000000 in
theorem readd_do (d bf bi bo bd i : Nat) (k : Nat) (D : DSt) (R : DRep) (F : Nat → Prop) (s : ByteArray) (f : AFile) (r : Nat × Value) (bs : List Int) (w : World) (h : DiskAt w F d D R) (hi : D.files[i]? = some (s, f)) (hr : R.reps[i]? = some r) (hk : f.blocks[k]? = some bs)
    (cf : w.cell? ⟨bf, 0, none⟩ = some (.pointer (some ⟨r.1, 0, none⟩))) (ci : w.cell? ⟨bi, 0, none⟩ = some (.int .i64 k)) (co : Blk w bo 161 #[.slice none 0 0]) (cd : w.cell? ⟨bd, 0, none⟩ = some (.pointer (some ⟨d, 0, none⟩))) (no : ¬ F bo) (_nfo : bf ≠ bo) (_nio : bi ≠ bo) (ndo : bd ≠ bo) :
    Calls Tryz.prog 282 #[.pointer (some ⟨bf, 0, none⟩), .pointer (some ⟨bi, 0, none⟩), .pointer (some ⟨bo, 0, none⟩), .pointer (some ⟨bd, 0, none⟩)] w fun e w' => e = .returned (.tuple #[]) ∧ ReadMid d bo F D R bs w w' := by
  have hfi := h.file i _ r hi hr
  obtain ⟨vs, hown, hgF, hbl⟩ := hfi.row
  have hlk := (List.getElem?_eq_some_iff.1 hk).1
  have hvl : vs.length = f.blocks.length := by simpa using hown.1
  obtain ⟨u, hu⟩ : ∃ u, vs[k]? = some u := ⟨_, List.getElem?_eq_getElem (by omega)⟩
  obtain ⟨a, c, rfl, hra, hFa, hty⟩ := (hbl k u bs hu hk).out
  obtain ⟨A, cp, hv⟩ := own_form hown
  have c1 : w.cell? ⟨r.1, 1, none⟩ = some r.2 := hfi.blk.at_ 1
  rw [hv] at c1
  have hown2 := hown
  rw [hv] at hown2
  obtain ⟨g, rfl, p⟩ := own_at hown2 hu
  have hbk := h.ok.size _ (List.mem_of_getElem? hi) bs (List.mem_of_getElem? hk)
  have hb1 := h.ok.b1
  have hcl := Hid.intro_ (clone_rd a c bs w.drew (hra.keep (Keep.refl Nil w).drew (fun _ _ _ h => h)) (by omega))
  have d5 : w.cell? ⟨d, 6, none⟩ = some (.int .i64 D.reads) := h.blk.at_ 6
  have HH := Hid.intro_ h
  have CO := Hid.intro_ co
  have lo := co.lt
  have co0 : w.cell? ⟨bo, 0, none⟩ = some (.slice none 0 0) := co.at_ 0
  have fo0 := co.fr 0
  have hk0 : 0 ≤ (k : Int) := by omega
  have hk1 : (k : Int) < (f.blocks.length : Int) := by omega
  have nd : d ≠ bo := fun e => no (by rw [← e]; exact h.fd)
  clear hfi hown hgF hbl hu hra hty hown2 hv hi hr hk hbk
  go_enter Tryz.func282, Tryz.ntmps282
  go_wp2_with fail
  go_still_tail 7, (by kernel_rfl)
  change wpList _ _ _ _ _ w.drew
  go_wp2_with fail
  refine hcl.out.mono ?_
  rintro e w1 ⟨u, rfl, hbs, k1⟩
  have kw1 := (Keep.refl Nil w).drew.then_ k1
  have o1 := cell_keep co0 kw1 (fun h => h)
  have b1 := CO.out.keep kw1 (fun h => h)
  have f1 := b1.fr 0
  have d1 := cell_keep d5 kw1 (fun h => h)
  have hd1 := HH.out.nil kw1
  have fd1 := hd1.blk.fr 6
  have e1 := cell_keep cd kw1 (fun h => h)
  obtain ⟨A2, c2, rfl, _, _, _, _⟩ := hbs.out
  have HBS := Hid.intro_ hbs
  have KW1 := Hid.intro_ kw1
  have HD1 := Hid.intro_ hd1
  have B1 := Hid.intro_ b1
  have nd2 : bo ≠ d := fun e => nd e.symm
  have ndo2 : bo ≠ bd := fun e => ndo e.symm
  clear hbs kw1 hd1 b1 k1 cf ci co0 fo0 cd d5
  go_wp2_with fail
  go_end0
  have ks := (Keep.refl (fun b => b = bo) w1).setCell (p := ⟨bo, 0, none⟩) (fun _ => rfl) (.slice A2 bs.length c2)
  have hbo : Blk (w1.setCell ⟨bo, 0, none⟩ (.slice A2 bs.length c2)) bo 161 #[.slice A2 bs.length c2] := B1.out.set_ 0 _
  have hd2 := HD1.out.keep ks (fun b hb e => no (by rw [← show b = bo from e]; exact hb))
  have kd := (Keep.refl (fun b => b = d) (w1.setCell ⟨bo, 0, none⟩ (.slice A2 bs.length c2))).setCell (p := ⟨d, 6, none⟩) (fun _ => rfl) (.int .i64 (wrap64 (D.reads + 1)))
  have hbs2 := HBS.out.far ks (fun cs fr hc => by
    have hb := B1.out
    unfold Blk at hb
    rw [hc] at hb
    injection hb with hb
    injection hb with _ hb
    exact absurd hb (by decide))
  have hbs3 := hbs2.far kd (fun cs fr hc => by
    have hb := hd2.blk
    unfold Blk at hb
    rw [hc] at hb
    injection hb with hb
    injection hb with _ hb
    exact absurd hb (by decide))
  have hok : D.readOne.Ok := by
    obtain ⟨a1, a2, a3, a4, a5, a6, a7, a8, a9, a10, a11⟩ := HH.out.ok
    exact ⟨a1, a2, a3, a4, a5, a6, a7, a8, a9, a10, a11⟩
  refine ⟨rfl, hd2.turn kd (hd2.blk.set_ 6 _) rfl rfl hok, ((KW1.out.mono (fun _ _ h => h.elim)).trans (ks.mono (fun b _ e => .inr e)) (fun _ _ h => h)).trans (kd.mono (fun b _ e => .inl e)) (fun _ _ h => h), .slice A2 bs.length c2, ?_, hbs3.mono (fun b hb _ => Nat.le_trans (Nat.le_refl _) hb)⟩
  exact cell_keep (hbo.at_ 0) kd nd2
theorem readd_enters (a b c d : Nat) (w : World) : (callFunc 282 #[.pointer (some ⟨a, 0, none⟩), .pointer (some ⟨b, 0, none⟩), .pointer (some ⟨c, 0, none⟩), .pointer (some ⟨d, 0, none⟩)]).run Tryz.prog w = .ok (.enter 282 #[.pointer (some ⟨a, 0, none⟩), .pointer (some ⟨b, 0, none⟩), .pointer (some ⟨c, 0, none⟩), .pointer (some ⟨d, 0, none⟩)]) w := by
  kernel_rfl
theorem readp_enters (n : Int) (w : World) : (callFunc 283 (#[.int .i64 n] ++ #[])).run Tryz.prog w = .ok (.enter 283 (#[.int .i64 n] ++ #[])) w := by
  kernel_rfl
theorem readp_do (n : Int) (w : World) : Calls Tryz.prog 283 (#[.int .i64 n] ++ #[]) w fun e w' => e = .returned (.tuple #[]) ∧ w' = w := by
  show Calls Tryz.prog 283 #[.int .i64 n] w _
  go_enter Tryz.func283, Tryz.ntmps283
  go_wp2
  go_end0
  exact ⟨rfl, rfl⟩
set_option maxRecDepth 100000 in
set_option maxHeartbeats 2000000 in
/-- Read refuses ahead of the call. -/
theorem dread_bad (d : Nat) (D : DSt) (R : DRep) (F : Nat → Prop) (E : Nat → Addr) (s : ByteArray) (i : Int) (w : World) (h : DiskAt w F d D R) (he : Env w F E)
    (hb : (∃ k, D.perr s = some k) ∨ (D.perr s = none ∧ ∃ j f, fpos s D.files = some (j, f) ∧ (f.done = false ∨ (f.done = true ∧ (i < 0 ∨ (0 ≤ i ∧ (f.blocks.length : Int) ≤ i)))))) :
    Calls Tryz.prog 251 #[.pointer (some ⟨d, 0, none⟩), .string s, .int .i64 i] w (ReadPost d F w (D.read s i)) := by
  obtain ⟨W, hW⟩ : ∃ W, W = (w.alloc (.cells #[.pointer (some ⟨d, 0, none⟩)] 31)).alloc (.cells #[.int .i64 i] 3) := ⟨_, rfl⟩
  have kW : Keep Nil w W := by rw [hW]; exact ((Keep.refl Nil w).alloc _).alloc _
  have hdW := h.nil kW
  have heW := he.nil kW
  have KW := Hid.intro_ kW
  rcases hb with ⟨k, hp⟩ | ⟨hp, j, f, hf, hq⟩
  · have HX := Hid.intro_ (show D.read s i = (D, errNo k, none) by unfold DSt.read; rw [hp])
    have hk := perr_lt hp
    have HPB := Hid.intro_ (powered_bad d D R F E s k W hdW heW hp)
    have HEW := Hid.intro_ heW
    clear hp kW hdW heW
    go_enter Tryz.func251, Tryz.ntmps251
    go_wp2_with fail
    rw [← hW]
    refine HPB.out.mono ?_
    rintro e w1 ⟨rfl, hd1⟩
    have HT := Hid.intro_ (told_about s E k (w1.alloc (.cells #[.pointer none] 158)) hk ((HEW.out.nil (hd1.keep.alloc _)).errs))
    clear hW
    go_wp2_with (go_at_call 186; refine HT.out.mono ?_; rintro e w2 ⟨rfl, hk2⟩)
    go_ret2
    rw [HX.out]
    exact ⟨.slice none 0 0, rfl, (DiskTo.of_keep h (Keep.refl _ _)).nil (KW.out.then_ ((hd1.keep.alloc _).then_ hk2)), .inl ⟨rfl, rfl⟩⟩
  · obtain ⟨ho, hn, _⟩ := perr_on hp
    obtain ⟨r, hr, hi⟩ := fpos_reps h hf
    have hfi := (hdW.file _ _ r hi hr)
    have c0 := hfi.blk.at_ 0
    have c1 := hfi.blk.at_ 1
    obtain ⟨a, cp, hv, _⟩ := hfi.len
    have HPO := Hid.intro_ (powered_ok d D R F s j f r W hdW ho hn hf hr)
    have lr := hfi.blk.lt
    have HEW := Hid.intro_ heW
    simp only [List.getElem?_toArray, List.getElem?_cons_zero, List.getElem?_cons_succ] at c0 c1
    rw [hv] at c1
    rcases hq with hq | ⟨hq, hrange⟩
    · have HX := Hid.intro_ (show D.read s i = (D, errNo 5, none) by unfold DSt.read; rw [hp]; simp only [hf]; rw [if_pos hq])
      have c0' : W.cell? ⟨r.1, 0, none⟩ = some (.int .i64 0) := by rw [c0, hq]; rfl
      have v5 : W.cell? ⟨6, 0, none⟩ = some (.iface 421 (.pointer (some (E 5)))) := heW.errs.var 5 (by decide)
      have l5 := cell_lt v5
      simp only at l5
      have p5 := Nat.lt_of_le_of_lt (Nat.zero_le _) l5
      clear hp ho hn hf hr hi hq hfi c0 kW hdW heW hv
      go_enter Tryz.func251, Tryz.ntmps251
      go_wp2_with fail
      rw [← hW]
      refine HPO.out.mono ?_
      rintro e w1 ⟨rfl, hw1⟩
      obtain rfl := hw1.symm
      have HT := Hid.intro_ (told_about s E 5 (W.alloc (.cells #[.pointer (some ⟨r.1, 0, none⟩)] 158)) (by decide) ((HEW.out.nil ((Keep.refl Nil W).alloc _)).errs))
      clear hW
      go_wp2_with (go_at_call 186; refine HT.out.mono ?_; rintro e w2 ⟨rfl, hk2⟩)
      go_ret2
      rw [HX.out]
      exact ⟨.slice none 0 0, rfl, (DiskTo.of_keep h (Keep.refl _ _)).nil (KW.out.then_ (((Keep.refl Nil W).alloc _).then_ hk2)), .inl ⟨rfl, rfl⟩⟩
    · have HX := Hid.intro_ (show D.read s i = (D, errNo 6, none) by unfold DSt.read; rw [hp]; simp only [hf]; rw [if_neg (by simp [hq]), if_pos (by rcases hrange with h | h; exact .inl h; exact .inr h.2)])
      have c0' : W.cell? ⟨r.1, 0, none⟩ = some (.int .i64 1) := by rw [c0, hq]; rfl
      have v6 : W.cell? ⟨7, 0, none⟩ = some (.iface 421 (.pointer (some (E 6)))) := heW.errs.var 6 (by decide)
      have l6 := cell_lt v6
      simp only at l6
      have p6 := Nat.lt_of_le_of_lt (Nat.zero_le _) l6
      have ci : W.cell? ⟨w.heap.size + 1, 0, none⟩ = some (.int .i64 i) := by rw [hW]; exact (Blk.new_at _ _ _ (by simp)).at_ 0
      have lc : w.heap.size + 1 < W.heap.size := cell_lt ci
      clear hp ho hn hf hr hi hq hfi c0 kW hdW heW hv
      rcases hrange with hr0 | ⟨hr0, hr1⟩
      all_goals
        go_enter Tryz.func251, Tryz.ntmps251
        go_wp2_with fail
        rw [← hW]
        refine HPO.out.mono ?_
        rintro e w1 ⟨rfl, hw1⟩
        obtain rfl := hw1.symm
        clear hW
        go_wp2_with fail
        go_quiet (fail)
        obtain ⟨Y, hY⟩ : ∃ Y, Y = (W.alloc (.cells #[.pointer (some ⟨r.1, 0, none⟩)] 158)).drewN nq := ⟨_, rfl⟩
        have kY : Keep Nil W Y := by rw [hY]; exact ((Keep.refl Nil W).alloc _).drewN _
        have HT := Hid.intro_ (told_about s E 6 Y (by decide) ((HEW.out.nil kY).errs))
        have v6' := cell_keep v6 kY (fun h => h)
        rw [← hY]
        clear hY
        go_wp2_with (go_at_call 186; refine HT.out.mono ?_; rintro e w2 ⟨rfl, hk2⟩)
        go_ret2
        rw [HX.out]
        exact ⟨.slice none 0 0, rfl, (DiskTo.of_keep h (Keep.refl _ _)).nil (KW.out.then_ (kY.then_ hk2)), .inl ⟨rfl, rfl⟩⟩
/-- What a good Read comes to. -/
def DSt.readQ (D : DSt) (bs : List Int) : DSt × Int × Option (List Int) := match D.fate true with
  | .done => (D.numbered.readOne, 0, some bs)
  | .fault => (D.faulted, 9, none)
  | .cut _ => (D.numbered.cutOff, 10, none)
/-- What the numbered call of Read leaves. -/
def ReadAct (d bo : Nat) (F : Nat → Prop) (E : Nat → Addr) (q : DSt × Int × Option (List Int)) (Y : World) (v : Value) (w' : World) : Prop :=
  ErrV E v q.2.1 ∧ (∃ F2 R2, DiskAt w' F2 d q.1 R2 ∧ Keep (fun b => F b ∨ b = bo) Y w' ∧ ∀ b, F2 b → F b ∨ Y.heap.size ≤ b) ∧ ∃ u, w'.cell? ⟨bo, 0, none⟩ = some u ∧ ((q.2.2 = none ∧ u = .slice none 0 0) ∨ ∃ bs, q.2.2 = some bs ∧ BsAt w' (fun b => Y.heap.size ≤ b) u bs)
theorem act_read (d bf bi bo bd j k : Nat) (D : DSt) (R : DRep) (F : Nat → Prop) (E : Nat → Addr) (s : ByteArray) (f : AFile) (r : Nat × Value) (bs : List Int) (Y : World) (h : DiskAt Y F d D R) (he : Env Y F E) (hi : D.files[j]? = some (s, f)) (hr : R.reps[j]? = some r) (hk : f.blocks[k]? = some bs)
    (cf : Y.cell? ⟨bf, 0, none⟩ = some (.pointer (some ⟨r.1, 0, none⟩))) (ci : Y.cell? ⟨bi, 0, none⟩ = some (.int .i64 k)) (co : Blk Y bo 161 #[.slice none 0 0]) (cd : Y.cell? ⟨bd, 0, none⟩ = some (.pointer (some ⟨d, 0, none⟩))) (no : ¬ F bo) (nfo : bf ≠ bo) (nio : bi ≠ bo) (ndo : bd ≠ bo) (nfd : bf ≠ d) (nid : bi ≠ d) (ndd : bd ≠ d) :
    Calls Tryz.prog 188 #[.pointer (some ⟨d, 0, none⟩), .bool true, .func (.func 282) #[] #[.pointer (some ⟨bf, 0, none⟩), .pointer (some ⟨bi, 0, none⟩), .pointer (some ⟨bo, 0, none⟩), .pointer (some ⟨bd, 0, none⟩)], .func (.func 283) #[] #[]] Y fun e w' =>
      ∃ v, e = .returned v ∧ ReadAct d bo F E (D.readQ bs) Y v w' := by
  have nod : bo ≠ d := fun e => no (by rw [e]; exact h.fd)
  cases hq : D.fate true with
  | done =>
    have hx : D.readQ bs = (D.numbered.readOne, 0, some bs) := by unfold DSt.readQ; rw [hq]
    rw [hx]
    refine (act_done d D R F true 282 283 #[.pointer (some ⟨bf, 0, none⟩), .pointer (some ⟨bi, 0, none⟩), .pointer (some ⟨bo, 0, none⟩), .pointer (some ⟨bd, 0, none⟩)] #[]
      (fun w2 => DiskAt w2 F d D.numbered.readOne R ∧ Keep (fun b => b = d ∨ b = bo) Y w2 ∧ ∃ u, w2.cell? ⟨bo, 0, none⟩ = some u ∧ BsAt w2 (fun b => Y.heap.size ≤ b) u bs) Y h hq (fun w => readd_enters _ _ _ _ w)
      (fun w1 h1 k1 => (readd_do d bf bi bo bd j k D.numbered R F s f r bs w1 h1 hi hr hk (cell_keep cf k1 nfd) (cell_keep ci k1 nid) (co.keep k1 nod) (cell_keep cd k1 ndd) no nfo nio ndo).mono fun e w2 ⟨he2, hd2, hk2, u, hu, hb⟩ => ⟨he2, hd2, (k1.mono (fun b _ e => .inl e)).trans hk2 (fun _ _ h => h), u, hu, hb.mono (fun b hb _ => Nat.le_trans k1.size hb)⟩)).mono ?_
    rintro e w2 ⟨rfl, hd2, hk2, u, hu, hb⟩
    exact ⟨_, rfl, .inl ⟨rfl, rfl⟩, ⟨F, R, hd2, hk2.mono (fun b _ e => e.imp (fun e => by rw [e]; exact h.fd) id), fun b hb => .inl hb⟩, u, hu, .inr ⟨bs, rfl, hb⟩⟩
  | fault =>
    have hx : D.readQ bs = (D.faulted, 9, none) := by unfold DSt.readQ; rw [hq]
    rw [hx]
    refine (act_fault d D R F E _ _ _ _ Y h he hq).mono ?_
    rintro e w2 ⟨rfl, hd2, hk2⟩
    exact ⟨_, rfl, .inr ⟨8, by decide, rfl, rfl⟩, ⟨F, R, hd2, hk2.mono (fun b _ e => .inl (by rw [show b = d from e]; exact h.fd)), fun b hb => .inl hb⟩, _, (co.keep hk2 nod).at_ 0, .inl ⟨rfl, rfl⟩⟩
  | cut n =>
    have hx : D.readQ bs = (D.numbered.cutOff, 10, none) := by unfold DSt.readQ; rw [hq]
    rw [hx]
    refine (act_cut d D R F E true n 282 283 _ #[] D.numbered Y h he hq (fun w => readp_enters n w) (fun w1 h1 k1 => (readp_do n w1).mono fun e w2 ⟨he2, hw2⟩ => ⟨he2, F, R, by rw [hw2]; exact h1, by rw [hw2]; exact ⟨Keep.refl _ _, fun b hb => .inl hb⟩⟩)).mono ?_
    rintro e w2 ⟨rfl, F2, R2, hd2, hs2⟩
    exact ⟨_, rfl, .inr ⟨0, by decide, rfl, rfl⟩, ⟨F2, R2, hd2, hs2.keep.mono (fun b _ e => .inl e), hs2.grow⟩, _, (co.keep hs2.keep no).at_ 0, .inl ⟨rfl, rfl⟩⟩
set_option maxRecDepth 100000 in
set_option maxHeartbeats 2000000 in
theorem dread_go (d : Nat) (D : DSt) (R : DRep) (F : Nat → Prop) (E : Nat → Addr) (s : ByteArray) (k j : Nat) (f : AFile) (bs : List Int) (w : World) (h : DiskAt w F d D R) (he : Env w F E)
    (hp : D.perr s = none) (hf : fpos s D.files = some (j, f)) (hq : f.done = true) (hk : f.blocks[k]? = some bs) :
    Calls Tryz.prog 251 #[.pointer (some ⟨d, 0, none⟩), .string s, .int .i64 k] w (ReadPost d F w (D.read s k)) := by
  obtain ⟨W, hW⟩ : ∃ W, W = (w.alloc (.cells #[.pointer (some ⟨d, 0, none⟩)] 31)).alloc (.cells #[.int .i64 k] 3) := ⟨_, rfl⟩
  have kW : Keep Nil w W := by rw [hW]; exact ((Keep.refl Nil w).alloc _).alloc _
  have hdW := h.nil kW
  have heW := he.nil kW
  have KW := Hid.intro_ kW
  have hkl := (List.getElem?_eq_some_iff.1 hk).1
  have HX := Hid.intro_ (show D.read s k = D.readQ bs by
    unfold DSt.read; rw [hp]; simp only [hf]; rw [if_neg (by simp [hq]), if_neg (by omega), Int.toNat_natCast, hk]; rfl)
  obtain ⟨ho, hn, _⟩ := perr_on hp
  obtain ⟨r, hr, hi⟩ := fpos_reps h hf
  have hfi := (hdW.file _ _ r hi hr)
  have c0 := hfi.blk.at_ 0
  have c1 := hfi.blk.at_ 1
  obtain ⟨a, cp, hv, _⟩ := hfi.len
  have HPO := Hid.intro_ (powered_ok d D R F s j f r W hdW ho hn hf hr)
  have lr := hfi.blk.lt
  have HEW := Hid.intro_ heW
  have HDW := Hid.intro_ hdW
  have HI := Hid.intro_ hi
  have HR := Hid.intro_ hr
  have HK := Hid.intro_ hk
  simp only [List.getElem?_toArray, List.getElem?_cons_zero, List.getElem?_cons_succ] at c0 c1
  rw [hv] at c1
  have c0' : W.cell? ⟨r.1, 0, none⟩ = some (.int .i64 1) := by rw [c0, hq]; rfl
  have bd : Blk W w.heap.size 31 #[.pointer (some ⟨d, 0, none⟩)] := by rw [hW]; exact (Blk.new w _ _).alloc _
  have bi : Blk W (w.heap.size + 1) 3 #[.int .i64 k] := by rw [hW]; exact Blk.new_at _ _ _ (by simp)
  have ci : W.cell? ⟨w.heap.size + 1, 0, none⟩ = some (.int .i64 k) := bi.at_ 0
  have cd : W.cell? ⟨w.heap.size, 0, none⟩ = some (.pointer (some ⟨d, 0, none⟩)) := bd.at_ 0
  have lc := bi.lt
  have hWs : W.heap.size = w.heap.size + 2 := by rw [hW]; simp
  have hWS := Hid.intro_ hWs
  have ldw := h.blk.lt
  have hFlt := Hid.intro_ h.lt
  have hk0 : 0 ≤ (k : Int) := by omega
  have hk1 : (k : Int) < (f.blocks.length : Int) := by omega
  have hmf : ∀ (fn : Fn) (first cap : Array Value) (w : World), (Instr.makeFunc fn first cap).run Tryz.prog w = .ok (.func fn first cap) w := fun _ _ _ _ => rfl
  clear hp ho hn hf hr hi hq hfi c0 kW hdW heW hv hk bd bi hWs
  go_enter Tryz.func251, Tryz.ntmps251
  go_wp2_with fail
  rw [← hW]
  refine HPO.out.mono ?_
  rintro e w1 ⟨rfl, hw1⟩
  obtain rfl := hw1.symm
  clear hW
  go_wp2_with fail
  go_quiet (fail)
  obtain ⟨V, hV⟩ : ∃ V, V = (W.alloc (.cells #[.pointer (some ⟨r.1, 0, none⟩)] 158)).drewN nq := ⟨_, rfl⟩
  have kV : Keep Nil W V := by rw [hV]; exact ((Keep.refl Nil W).alloc _).drewN _
  have bV : Blk V W.heap.size 158 #[.pointer (some ⟨r.1, 0, none⟩)] := by rw [hV]; exact (Blk.new W _ _).drewN _
  have hVs : V.heap.size = W.heap.size + 1 := by rw [hV]; simp
  have HVS := Hid.intro_ hVs
  obtain ⟨Y, hY⟩ : ∃ Y, Y = V.alloc (.cells #[.slice none 0 0] 161) := ⟨_, rfl⟩
  have kY0 : Keep Nil V Y := by rw [hY]; exact (Keep.refl Nil V).alloc _
  have bo : Blk Y V.heap.size 161 #[.slice none 0 0] := by rw [hY]; exact Blk.new V _ _
  have kY := kV.then_ kY0
  have cdY := cell_keep cd kY (fun h => h)
  have ciY := cell_keep ci kY (fun h => h)
  have cfY : Y.cell? ⟨W.heap.size, 0, none⟩ = some (.pointer (some ⟨r.1, 0, none⟩)) := (bV.keep kY0 (fun h => h)).at_ 0
  have cdV := cell_keep cd kV (fun h => h)
  have hdY := HDW.out.nil kY
  have heY := HEW.out.nil kY
  have noF : ¬ F V.heap.size := fun hf => by have h1 := hFlt.out _ hf; have h2 := hWS.out; omega
  have ndY : V.heap.size ≠ d := fun e => by have h2 := hWS.out; omega
  rw [← hV]
  have lV : w.heap.size < V.heap.size := by have h2 := hWS.out; omega
  have HACT := Hid.intro_ (act_read d W.heap.size (w.heap.size + 1) V.heap.size w.heap.size j k D R F E s f r bs Y hdY heY HI.out HR.out HK.out cfY ciY bo cdY noF (by omega) (by have h2 := hWS.out; omega) (by omega) (by have h2 := hWS.out; omega) (by omega) (by omega))
  have HKY := Hid.intro_ (KW.out.then_ kY)
  have HEY := Hid.intro_ heY
  have HVY := Hid.intro_ (show w.heap.size ≤ V.heap.size from Nat.le_of_lt lV)
  clear kY kV bV bo kY0 ciY cfY hdY heY cdY hVs hV
  go_wp2_with fail
  rw [← hY]
  refine HACT.out.mono ?_
  rintro e w2 ⟨v, rfl, hv, ⟨F2, R2, hd2, hk2, hg2⟩, u, hu, hb⟩
  have HB := Hid.intro_ hb
  have HD2 := Hid.intro_ hd2
  have HK2 := Hid.intro_ hk2
  have HG2 := Hid.intro_ hg2
  have hkw : Keep F w w2 := (HKY.out.mono (fun _ _ h => h.elim)).trans hk2 (fun b hb e => e.elim id (fun e => absurd hb (by rw [e]; have := HVY.out; omega)))
  have HKW := Hid.intro_ hkw
  have HE2 := Hid.intro_ (he.errs.keep hkw he.nv he.nb)
  clear hb hd2 hk2 hg2 hY hkw
  go_wp2_with fail
  go_region_held3 (fun w' => w'.cell? ⟨V.heap.size, 0, none⟩ = some u)
    (first | exact hu | exact cell_keep (w := w2.drew) hu hk3 (fun h => h))
    ((go_at_call 186; refine (told_v E v _ _ hv (HE2.out.keep ((Keep.refl Nil w2).drew) (fun _ _ h => h) (fun _ _ h => h))).mono ?_
      rintro e w3 ⟨rfl, hk3⟩))
  all_goals
    go_wp2_with fail
    go_ret2
    rw [HX.out]
    have k3 := (Keep.refl Nil w2).drew.then_ hk3
    refine ⟨u, rfl, DiskTo.nil (w' := w2) ⟨F2, R2, HD2.out, HKW.out, fun b hb => (HG2.out b hb).imp id (fun h => Nat.le_trans HKY.out.size h)⟩ k3, ?_⟩
    rcases HB.out with ⟨h1, h2⟩ | ⟨bs', h1, h2⟩
    · exact .inl ⟨h1, h2⟩
    · exact .inr ⟨bs', h1, (h2.keep k3 (fun _ _ _ h => h)).mono (fun b hb _ => Nat.le_trans HKY.out.size hb)⟩
/-- Read, whatever befalls it. -/
theorem dread_any (d : Nat) (D : DSt) (R : DRep) (F : Nat → Prop) (E : Nat → Addr) (s : ByteArray) (i : Int) (w : World) (h : DiskAt w F d D R) (he : Env w F E) :
    Calls Tryz.prog 251 #[.pointer (some ⟨d, 0, none⟩), .string s, .int .i64 i] w (ReadPost d F w (D.read s i)) := by
  rcases hp : D.perr s with _ | k
  · obtain ⟨ho, hn, j, f, hf⟩ := perr_on hp
    by_cases hq : f.done = true
    · by_cases h0 : i < 0
      · exact dread_bad d D R F E s i w h he (.inr ⟨hp, j, f, hf, .inr ⟨hq, .inl h0⟩⟩)
      · by_cases h1 : (f.blocks.length : Int) ≤ i
        · exact dread_bad d D R F E s i w h he (.inr ⟨hp, j, f, hf, .inr ⟨hq, .inr ⟨by omega, h1⟩⟩⟩)
        · obtain ⟨k, rfl⟩ := Int.eq_ofNat_of_zero_le (by omega : 0 ≤ i)
          exact dread_go d D R F E s k j f _ w h he hp hf hq (List.getElem?_eq_getElem (by omega))
    · exact dread_bad d D R F E s i w h he (.inr ⟨hp, j, f, hf, .inl (by simpa using hq)⟩)
  · exact dread_bad d D R F E s i w h he (.inl ⟨k, hp⟩)
end Go.Proofs.YtadipinnbehhhaaGreatDoor
