/- slices.Clone at bytes; a new disk. A disk is mounted. DERIVED. MADE BY PROGRAM (lay-iter.mjs) off ytadipinnbehhhaagreatdoor.cut.gsa: THE SHELF's CONTRACTS ON 'slices.Sorted(maps.Keys(m))' LAID AT THIS DUMP: 1 map type. NO WALK OF THE LIBRARY's TEXT: each is one application of a contract over any P and ρ (Derived/Shelf/SlIter/, Derived/Shelf/SortM/). The names of a disk's files, rising. What a disk holds: State. -/
import Derived.Deep.RegionHeld3
import Derived.Shelf.SlIter.Nil
import Derived.Shelf.SortM.Plain
import Derived.Shelf.SortM.SortNone
import Derived.Ground.GgzProg
import Derived.Ground.SlgmProg
import Derived.Test.YtadipinnbehhhaaGreatDoorProg
import Derived.CallsIn
import Derived.Test.YtadipinnbehhhaaGreatDoorCubesRowAC
namespace Go.Proofs.YtadipinnbehhhaaGreatDoor
open Go.RowKit

set_option maxRecDepth 100000 in
set_option maxHeartbeats 2000000 in
theorem clone_rd (ad : Addr) (c : Nat) (bs : List Int) (w : World) (hr : Rd w (some ad) (by8 bs)) (h2 : bs.length ≤ 65536) :
    Calls Tryz.prog 71 #[.slice (some ad) bs.length c] w fun e w' => ∃ u, e = .returned u ∧ BsAt w' (fun b => w.heap.size ≤ b) u bs ∧ Keep Nil w w' := by
  obtain ⟨i0, hi0, hz0, hz1, hz2⟩ := info_parts info_u8
  have HR := Hid.intro_ hr
  clear hr
  have hmade := World.ownsRow_made (base := w.heap.size) (w := w) (e := 5) (size := 1) #[] 0 (Nat.le_refl _) (Nat.zero_le _) rfl
  have HM := Hid.intro_ hmade
  have hsrc : Hid (∀ w', Keep Nil w w' → ∀ (j : Nat) (u : Value), (by8 bs)[j]? = some u → w'.cell? (ad.add j) = some u) := fun w' k j u hu => by
    obtain ⟨ad2, e, hc⟩ := (HR.out.keep k (fun _ _ _ h => h)) j u hu
    injection e with e
    subst e
    exact hc
  have h1c := Hid.intro_ (show ∀ v ∈ by8 bs, v.oneCell' = true by
    intro v hv
    obtain ⟨x, _, rfl⟩ := List.mem_map.1 hv
    rfl)
  clear hmade
  have heq := fun w => Lib.run_eql_slice_nil (P := Tryz.prog) w 161 5 (some ad) bs.length c 0 0 Tryz.underlying161
  go_enter Tryz.func71, Tryz.ntmps71
  go_wp2_with (at_builtin; refine wpList_append_own_at _ rfl (.tmp 5) (.tmp 6) 161 rfl w.heap.size 5 i0 (.int .u8 0) 1 1 Tryz.underlying161 hi0 hz0 hz1 hz2 rfl (by decide) (.slice (some ⟨w.heap.size, 0, none⟩) 0 0) 0 [] (by simp [Act.eval]) HM.out ad bs.length c (by8 bs) (by simp [Act.eval]) (by simp [by8_len]) (hsrc.out _ ((Keep.refl Nil w).alloc _)) h1c.out (by unfold maxLen; omega) (by omega) (by simp) ?_; intro v1 w1 hown1 hgr1 _ hat1)
  have k1 : Keep Nil w w1 := ((Keep.refl Nil w).alloc _).trans (Keep.of_grown hgr1) (fun b hb e => by
    have : w.heap.size = b := by simpa [Value.ownBlock] using e
    omega)
  have HO := Hid.intro_ hown1
  clear hown1 hgr1
  go_wp2
  go_ret
  refine ⟨v1, rfl, BsAt.of_own (n := 0 + bs.length) (by simpa using HO.out) (by simp) (fun g hg => (HO.out.lt g hg).1), k1⟩
theorem clone_any (H : Nat → Prop) (v : Value) (bs : List Int) (w : World) (h : BsAt w H v bs) (h1 : 1 ≤ bs.length) (h2 : bs.length ≤ 65536) :
    Calls Tryz.prog 71 #[v] w fun e w' => ∃ u, e = .returned u ∧ BsAt w' (fun b => w.heap.size ≤ b) u bs ∧ Keep Nil w w' := by
  obtain ⟨A, c, rfl, hc, hr, hi, ht⟩ := h.out
  obtain ⟨x, hx⟩ : ∃ x, (by8 bs)[0]? = some x := ⟨_, List.getElem?_eq_getElem (by rw [by8_len]; omega)⟩
  obtain ⟨ad, rfl, _⟩ := hr 0 x hx
  exact clone_rd ad c bs w hr h2
def newD (block blocks : Int) : DSt := { on := true, block := block, room := blocks, files := [], trs := [], calls := 0, reads := 0, appends := 0, faults := 0, full := 0, used := 0, most := 0 }
set_option maxRecDepth 100000 in
set_option maxHeartbeats 2000000 in
theorem clone_tr_nil (w : World) :
    Calls Tryz.prog 181 #[.slice none 0 0] w fun e w' => e = .returned (.slice none 0 0) ∧ w' = w := by
  have heq := fun w => Lib.run_eql_slice_nil (P := Tryz.prog) w 131 290 none 0 0 0 0 Tryz.underlying131
  go_enter Tryz.func181, Tryz.ntmps181
  go_wp2
  go_ret
  exact ⟨rfl, rfl⟩
set_option maxRecDepth 100000 in
set_option maxHeartbeats 2000000 in
theorem fits_ok (block blocks : Int) (v : Value) (w : World) (_hv : v.oneCell' = true) (h1 : 64 ≤ block) (h2 : block ≤ 65536) (h3 : block % 32 = 0) (h4 : 0 ≤ blocks) (h5 : blocks ≤ 1099511627776) :
    Calls Tryz.prog 180 #[.agg #[.int .i64 block, .int .i64 blocks, v]] w fun e w' => e = .returned (.bool true) ∧ Keep Nil w w' := by
  have e3 : (block % 32 == 0) = true := by simpa using h3
  go_enter Tryz.func180, Tryz.ntmps180
  go_wp2
  go_ret
  exact ⟨rfl, (Keep.refl Nil w).alloc _⟩
theorem heap_new (w : World) (o : Obj) : (w.alloc o).heap[w.heap.size]? = some o := by unfold World.alloc; simp
theorem new_disk {block blocks : Int} {w w1 w2 : World} (h1 : 64 ≤ block) (h2 : block ≤ 65536) (h4 : 0 ≤ blocks) (h5 : blocks ≤ 1099511627776)
    (hm : w2.heap[w1.heap.size]? = some (.map #[] 0)) (hb : Blk w2 (w1.heap.size + 1) 153 ((newD block blocks).cells { mb := w1.heap.size, reps := [], tb := none, tc := 0 })) (hl : w.heap.size ≤ w1.heap.size) (hl2 : w1.heap.size + 1 < w2.heap.size) :
    DiskAt w2 (fun b => w.heap.size ≤ b ∧ b < w2.heap.size) (w1.heap.size + 1) (newD block blocks) { mb := w1.heap.size, reps := [], tb := none, tc := 0 } := {
  blk := hb
  fd := ⟨by omega, hl2⟩
  fm := ⟨hl, by show w1.heap.size < _; omega⟩
  map := ⟨#[], 0, hm, rfl, Go.MapKept.stamped_empty 0⟩
  len := rfl
  fbs := List.nodup_nil
  file := fun i f r hf => by simp [newD] at hf
  row := fun i j r s g hr => by simp at hr
  trs := fun j u hu => by simp [newD, trCells] at hu
  ftr := fun b e => by cases e
  tcl := Nat.zero_le _
  tcm := Nat.zero_le _
  lt := fun b hb => hb.2
  ok := ⟨h1, h2, h4, h5, rfl, h4, h4, Int.le_refl _, fun f hf => by simp [newD] at hf, fun f hf => by simp [newD] at hf, List.nodup_nil⟩ }
set_option maxRecDepth 100000 in
set_option maxHeartbeats 2000000 in
theorem new_ok (block blocks : Int) (w : World) (h1 : 64 ≤ block) (h2 : block ≤ 65536) (h3 : block % 32 = 0) (h4 : 0 ≤ blocks) (h5 : blocks ≤ 1099511627776) :
    Calls Tryz.prog 120 #[.agg #[.int .i64 block, .int .i64 blocks, .slice none 0 0]] w fun e w' => ∃ d mb, e = .returned (.tuple #[.pointer (some ⟨d, 0, none⟩), .int .i64 0]) ∧ DiskAt w' (fun b => w.heap.size ≤ b ∧ b < w'.heap.size) d (newD block blocks) { mb := mb, reps := [], tb := none, tc := 0 } ∧ w'.heap[mb]? = some (.map #[] 0) ∧ Keep Nil w w' := by
  have hf := fun W => fits_ok block blocks (.slice none 0 0) W rfl h1 h2 h3 h4 h5
  have HF := Hid.intro_ hf
  clear hf
  go_enter Tryz.func120, Tryz.ntmps120
  have hmm := @run_makeMap Tryz.prog
  go_wp2_with (go_at_call 180; refine (HF.out _).mono ?_; rintro e w1 ⟨rfl, k1⟩)
  have b1 := (Blk.new w 136 #[.int .i64 block, .int .i64 blocks, .slice none 0 0]).keep k1 (fun h => h)
  have z0 : w1.cell? ⟨w.heap.size, 0, none⟩ = some (.int .i64 block) := b1.at_ 0
  have z1 : w1.cell? ⟨w.heap.size, 1, none⟩ = some (.int .i64 blocks) := b1.at_ 1
  have z2 : w1.cell? ⟨w.heap.size, 2, none⟩ = some (.slice none 0 0) := b1.at_ 2
  have n0 := World.new_ne w1 _ z0
  have n1 := World.new_ne w1 _ z1
  have n2 := World.new_ne w1 _ z2
  have l0 := b1.lt
  go_region_held3 (fun w' => w'.cell? ⟨w.heap.size, 0, none⟩ = some (.int .i64 block) ∧ w'.cell? ⟨w.heap.size, 1, none⟩ = some (.int .i64 blocks) ∧ w'.cell? ⟨w.heap.size, 2, none⟩ = some (.slice none 0 0))
    (first | exact ⟨z0, z1, z2⟩ | go_keep)
    ((go_at_call 181; refine (clone_tr_nil _).mono ?_; rintro e w' ⟨rfl, hw⟩; obtain rfl := hw.symm))
  all_goals
    go_wp2
    go_ret2
    refine ⟨w1.heap.size + 1, w1.heap.size, rfl, ?_, ?_, ?_⟩
    · refine new_disk (w1 := w1) h1 h2 h4 h5 ?_ ?_ ?_ ?_
      · exact (Below.heap_alloc _ _ _ (by simp)).trans (heap_new w1 _)
      · exact Blk.new_at _ _ _ (by simp)
      · exact Nat.le_of_lt l0
      · simp
    · exact (Below.heap_alloc _ _ _ (by simp)).trans (heap_new w1 _)
    · exact ((Keep.refl Nil w).alloc _).then_ (k1.then_ (((Keep.refl Nil w1).alloc _).alloc _).drew)
end Go.Proofs.YtadipinnbehhhaaGreatDoor
namespace Go.Proofs.YtadipinnbehhhaaGreatDoor
open Go.RowKit

structure FilesIn (w : World) (F : Nat → Prop) (mb : Nat) (fs : List (ByteArray × AFile)) (rs : List (Nat × Value)) : Prop where
  fm : F mb
  map : MapAt w mb (links fs rs)
  len : rs.length = fs.length
  fbs : (rs.map (·.1)).Nodup
  file : ∀ (i : Nat) (f : ByteArray × AFile) (r : Nat × Value), fs[i]? = some f → rs[i]? = some r → FileAt w F r f.2
  row : ∀ (i j : Nat) (r s : Nat × Value) (g : Nat), rs[i]? = some r → rs[j]? = some s → r.2.ownBlock = some g → s.2.ownBlock = some g → i = j
theorem FileAt.in_ {w : World} {F : Nat → Prop} {r : Nat × Value} {f : AFile} (h : FileAt w F r f) : FileAt w (fun b => F b ∧ b < w.heap.size) r f := by
  obtain ⟨h1, h2, vs, h3, h4, h5⟩ := h
  refine ⟨h1, ⟨h2, h1.lt⟩, vs, h3, fun g hg => ⟨h4 g hg, (h3.lt g hg).2⟩, fun j u bs hu hb => ?_⟩
  obtain ⟨a, c, e, hr, hf, cs, fr, hh⟩ := (h5 j u bs hu hb).out
  exact ⟨a, c, e, hr, ⟨hf, lt_of_heap hh⟩, cs, fr, hh⟩
section
variable {w w' : World} {F G : Nat → Prop} {mb : Nat} {fs : List (ByteArray × AFile)} {rs : List (Nat × Value)}
theorem FilesIn.keep (h : FilesIn w F mb fs rs) (k : Keep G w w') (hG : ∀ b, F b → b < w.heap.size → ¬ G b) : FilesIn w' F mb fs rs := {
  fm := h.fm
  map := h.map.of_heap (k.same _ h.map.lt (hG _ h.fm h.map.lt))
  len := h.len
  fbs := h.fbs
  file := fun i f r hf hr => by
    have g := (h.file i f r hf hr).in_
    have := g.keep k (hG _ g.inF.1 g.inF.2) (fun x hx => by obtain ⟨vs, _, g4, _⟩ := g.row; exact hG _ (g4 x hx).1 (g4 x hx).2) (fun b _ _ hb _ => hG b hb.1 hb.2)
    exact this.mono (fun b hb => hb.1)
  row := h.row }
theorem FilesIn.nil (h : FilesIn w F mb fs rs) (k : Keep Nil w w') : FilesIn w' F mb fs rs := h.keep k (fun _ _ _ h => h)
theorem FilesIn.empty (hm : w.heap[mb]? = some (.map #[] 0)) (hf : F mb) : FilesIn w F mb [] [] := {
  fm := hf
  map := ⟨#[], 0, hm, rfl, Go.MapKept.stamped_empty 0⟩
  len := rfl
  fbs := List.nodup_nil
  file := fun i f r hf => by simp at hf
  row := fun i j r s g hr => by simp at hr }
theorem FilesIn.push {s : ByteArray} {f : AFile} {g : Nat} {v : Value} (h : FilesIn w F mb fs rs) (k : Keep (fun b => b = mb) w w') (hm : MapAt w' mb (links fs rs ++ [(s, .pointer (some ⟨g, 0, none⟩))]))
    (hf : FileAt w F (g, v) f) (hg : ∀ r ∈ rs, r.1 ≠ g) (hv : ∀ r ∈ rs, ∀ x, r.2.ownBlock = some x → v.ownBlock ≠ some x) (hmb : ∀ cs t fr, ¬ w.heap[mb]? = some (.cells cs t fr)) : FilesIn w' F mb (fs ++ [(s, f)]) (rs ++ [(g, v)]) := by
  have keepF : ∀ {r : Nat × Value} {f : AFile}, FileAt w F r f → FileAt w' F r f := fun {r f} h => by
    refine h.keep k (fun e => hmb _ _ _ (by rw [← show r.1 = mb from e]; exact h.blk)) (fun x hx e => ?_) (fun b cs fr _ hb e => hmb cs _ fr (by rw [← show b = mb from e]; exact hb))
    obtain ⟨vs, g3, _, _⟩ := h.row
    obtain ⟨cur, hc⟩ := own_blk g3 hx
    exact hmb _ _ _ (by rw [← show x = mb from e]; exact hc)
  refine ⟨h.fm, ?_, by simp [h.len], ?_, fun i p r hp hr => ?_, fun i j r t x hr ht hx hy => ?_⟩
  · have : links (fs ++ [(s, f)]) (rs ++ [(g, v)]) = links fs rs ++ [(s, .pointer (some ⟨g, 0, none⟩))] := zipWith_append_one _ _ _ fs rs h.len
    rw [this]
    exact hm
  · rw [List.map_append]
    refine List.nodup_append.2 ⟨h.fbs, by simp, fun a ha b hb => ?_⟩
    simp at hb
    subst hb
    obtain ⟨r, hr, rfl⟩ := List.mem_map.1 ha
    exact hg r hr
  · by_cases hi : i < fs.length
    · rw [List.getElem?_append_left hi] at hp
      rw [List.getElem?_append_left (by rw [h.len]; exact hi)] at hr
      exact keepF (h.file i p r hp hr)
    · rw [List.getElem?_append_right (by omega)] at hp
      rw [List.getElem?_append_right (by rw [h.len]; omega), h.len] at hr
      have h0 : i - fs.length = 0 := by
        have := (List.getElem?_eq_some_iff.1 hp).1
        simp at this
        omega
      rw [h0] at hp hr
      simp only [List.getElem?_cons_zero, Option.some.injEq] at hp hr
      subst hp hr
      exact keepF hf
  · have key : ∀ (i : Nat) (r : Nat × Value), (rs ++ [(g, v)])[i]? = some r → (i < rs.length ∧ rs[i]? = some r) ∨ (i = rs.length ∧ r = (g, v)) := fun i r hr => by
      by_cases hi : i < rs.length
      · rw [List.getElem?_append_left hi] at hr; exact .inl ⟨hi, hr⟩
      · rw [List.getElem?_append_right (by omega)] at hr
        have h0 : i - rs.length = 0 := by
          have := (List.getElem?_eq_some_iff.1 hr).1
          simp at this
          omega
        rw [h0] at hr
        simp at hr
        exact .inr ⟨by omega, hr.symm⟩
    rcases key i r hr with ⟨_, h1⟩ | ⟨e1, h1⟩ <;> rcases key j t ht with ⟨_, h2⟩ | ⟨e2, h2⟩
    · exact h.row i j r t x h1 h2 hx hy
    · subst h2; exact (hv r (List.mem_of_getElem? h1) x hx hy).elim
    · subst h1; exact (hv t (List.mem_of_getElem? h2) x hy hx).elim
    · omega
end

theorem FilesIn.mono {w : World} {F F' : Nat → Prop} {mb : Nat} {fs : List (ByteArray × AFile)} {rs : List (Nat × Value)} (h : FilesIn w F mb fs rs) (hs : ∀ b, F b → F' b) : FilesIn w F' mb fs rs := {
  fm := hs _ h.fm
  map := h.map
  len := h.len
  fbs := h.fbs
  file := fun i f r hf hr => (h.file i f r hf hr).mono hs
  row := h.row }
theorem BsAt.blkv {w : World} {H : Nat → Prop} {v : Value} {bs : List Int} (h : BsAt w H v bs) (hl : 1 ≤ bs.length) : BlkV w H v bs := by
  obtain ⟨A, c, e, hc, hr, hi, ht⟩ := h.out
  obtain ⟨x, hx⟩ : ∃ x, (by8 bs)[0]? = some x := ⟨_, List.getElem?_eq_getElem (by rw [by8_len]; omega)⟩
  obtain ⟨ad, rfl, _⟩ := hr 0 x hx
  exact ⟨ad, c, e, hr, (hi ad rfl).1, ht ad rfl⟩
theorem OFs.file {w : World} {base : Nat} {H : Nat → Prop} {v : Value} {f : AFile} {g : Nat} (h : OFs w base H v f.blocks) (hH : ∀ g, v.ownBlock = some g → H g) (hg : H g) (hb : Blk w g 160 #[.int .i64 (if f.done then 1 else 0), v]) (hl : ∀ b ∈ f.blocks, 1 ≤ b.length) : FileAt w H (g, v) f := by
  obtain ⟨vs, ho, hv⟩ := h.out
  exact ⟨hb, hg, vs, own_more ho (Nat.zero_le _), hH, fun j u bs hu hbs => (hv j u bs hu hbs).blkv (hl bs (List.mem_of_getElem? hbs))⟩
structure MInv (w wr : World) (d mb : Nat) (block blocks : Int) (sv : Value) (done : List (ByteArray × AFile)) : Prop where mk ::
  keep : Keep Nil w wr
  disk : Blk wr d 153 ((newD block blocks).cells { mb := mb, reps := [], tb := none, tc := 0 })
  st : Blk wr w.heap.size 28 #[.int .i64 block, sv]
  su : Blk wr (w.heap.size + 1) 136 #[.int .i64 block, .int .i64 blocks, .slice none 0 0]
  files : ∃ rs, FilesIn wr (fun b => w.heap.size ≤ b ∧ b < wr.heap.size) mb done rs
  nd : w.heap.size ≤ d
structure MIn (w wi : World) (B g d mb : Nat) (block blocks : Int) (sv : Value) (done : List (ByteArray × AFile)) (s : ByteArray) (fd : Bool) (rv : Value) (bl : List (List Int)) : Prop where mk ::
  keep : Keep Nil w wi
  disk : Blk wi d 153 ((newD block blocks).cells { mb := mb, reps := [], tb := none, tc := 0 })
  st : Blk wi w.heap.size 28 #[.int .i64 block, sv]
  su : Blk wi (w.heap.size + 1) 136 #[.int .i64 block, .int .i64 blocks, .slice none 0 0]
  files : ∃ rs, FilesIn wi (fun b => w.heap.size ≤ b ∧ b < B) mb done rs
  box : Blk wi B 55 #[.string s, .bool fd, rv]
  file : ∃ v, Blk wi g 160 #[.int .i64 (if fd then 1 else 0), v] ∧ OFs wi g (fun b => g ≤ b) v bl
  lt : d < B ∧ w.heap.size + 1 < B ∧ mb < B ∧ B < g ∧ w.heap.size ≤ B
  nd : w.heap.size ≤ d
theorem MIn.push {w wr w2 w2' w3 : World} {B g d mb : Nat} {block blocks : Int} {sv rv v v' u : Value} {done : List (ByteArray × AFile)} {s : ByteArray} {fd : Bool} {bl : List (List Int)} {bs : List Int} {vs0 : List Value}
    (h : MIn w wr B g d mb block blocks sv done s fd rv bl) (hv : Blk wr g 160 #[.int .i64 (if fd then 1 else 0), v]) (ho : wr.ownsRow g 161 1 v bl.length vs0)
    (hv0 : ∀ (j : Nat) (u : Value) (bs : List Int), vs0[j]? = some u → bl[j]? = some bs → BsAt wr (fun b => g ≤ b) u bs) (k2 : Keep Nil wr w2) (hb2 : BsAt w2 (fun b => wr.heap.size ≤ b) u bs) (k2' : Keep Nil w2 w2')
    (ho3 : w3.ownsRow g 161 1 v' (bl.length + 1) (vs0 ++ [u])) (k3 : Keep (fun b => v.ownBlock = some b) w2' w3) (hv3 : v'.ownBlock = v.ownBlock ∨ v'.ownBlock = some w2'.heap.size) :
    MIn w (w3.setCell ⟨g, 1, none⟩ v') B g d mb block blocks sv done s fd rv (bl ++ [bs]) := by
  obtain ⟨a1, a2, a3, a4, ⟨rs, a5⟩, a6, _, ⟨l1, l2, l3, l4, l5⟩, a9⟩ := h
  have hg := hv.lt
  have kk := k2.then_ k2'
  have hvg : ∀ b, v.ownBlock = some b → g ≤ b := fun b hb => own_base ho hb
  have nvg : ¬ v.ownBlock = some g := fun e => by
    obtain ⟨cur, hc⟩ := own_blk ho e
    exact Blk.ne_ hv hc (by decide) rfl
  have nvg' : ¬ v'.ownBlock = some g := fun e => by
    rcases hv3 with h3 | h3
    · exact nvg (by rw [← h3]; exact e)
    · rw [h3] at e; injection e with e; have := kk.size; omega
  have K : Keep (fun b => g ≤ b) wr (w3.setCell ⟨g, 1, none⟩ v') := ((kk.mono (fun _ _ h => h.elim)).trans (k3.mono (fun b _ hb => hvg b hb)) (fun _ _ h => h)).setCell (p := ⟨g, 1, none⟩) (fun _ => Nat.le_refl _) _
  have hz := K.size
  have low : ∀ b, b < g → ¬ (g ≤ b) := fun b hb => by omega
  refine ⟨a1.trans K (fun b hb e => by omega), a2.keep K (low _ (by omega)), a3.keep K (low _ (by omega)), a4.keep K (low _ (by omega)), ⟨rs, a5.keep K (fun b hb _ => low b (by omega))⟩, a6.keep K (low _ (by omega)), ⟨v', ?_, ?_⟩, ⟨l1, l2, l3, l4, l5⟩, a9⟩
  · have := ((hv.keep kk (fun h => h)).keep k3 nvg).set_ 1 v'
    exact this
  · have hw3 : OFs w3 g (fun b => g ≤ b) v' (bl ++ [bs]) := by
      refine OFs.push (w1 := w2') (vs := vs0) (v := v) (fun j u bs hu hb => (hv0 j u bs hu hb).nil kk) (by simpa using ho.1) ((hb2.nil k2').mono (fun b hb _ => by omega)) ho3 k3 (fun x hx cs fr hc => ?_)
      obtain ⟨cur, hc2⟩ := own_blk ho hx
      exact Blk.ne_ (hc2.keep kk (fun h => h)) (show Blk w2' x 161 cur from hc2.keep kk (fun h => h)) (by
        have h1 := hc2.keep kk (fun h => h)
        unfold Blk at h1
        rw [hc] at h1
        injection h1 with h1
        injection h1 with _ h1
        exact absurd h1 (by decide)) rfl
    obtain ⟨vs1, o1, o2⟩ := hw3.out
    refine ⟨vs1, own_keep o1 ((Keep.refl (fun b => b = g) w3).setCell (p := ⟨g, 1, none⟩) (fun _ => rfl) _) (fun x hx e => nvg' (by rw [← show x = g from e]; exact hx)), fun j u bs hu hb => ?_⟩
    refine (o2 j u bs hu hb).far (g := g) ((Keep.refl (fun b => b = g) w3).setCell (p := ⟨g, 1, none⟩) (fun _ => rfl) _) (fun cs fr hc => ?_)
    have h1 := (hv.keep kk (fun h => h)).keep k3 nvg
    unfold Blk at h1
    rw [hc] at h1
    injection h1 with h1
    injection h1 with _ h1
    exact absurd h1 (by decide)
theorem MIn.done {w wr w2 : World} {B g d mb : Nat} {block blocks : Int} {sv rv : Value} {done : List (ByteArray × AFile)} {f : ByteArray × AFile} (h : MIn w wr B g d mb block blocks sv done f.1 f.2.done rv f.2.blocks) (hl : ∀ b ∈ f.2.blocks, 1 ≤ b.length) (rs : List (Nat × Value)) (hfs : FilesIn wr (fun b => w.heap.size ≤ b ∧ b < B) mb done rs)
    (hm : MapAt w2 mb (links done rs ++ [(f.1, .pointer (some ⟨g, 0, none⟩))])) (k : Keep (fun b => b = mb) wr w2) : MInv w w2 d mb block blocks sv (done ++ [f]) := by
  obtain ⟨a1, a2, a3, a4, _, a6, ⟨v, hv, hof⟩, ⟨l1, l2, l3, l4, l5⟩, a9⟩ := h
  have hg := hv.lt
  have hmo : ∀ cs t fr, ¬ wr.heap[mb]? = some (.cells cs t fr) := fun cs t fr hc => by
    obtain ⟨es, clock, hh, _⟩ := hfs.map
    rw [hc] at hh
    cases hh
  have hno : ∀ {b : Nat} {t : TypeId} {cs : Array Value}, Blk wr b t cs → ¬ b = mb := fun {b t cs} hb e => hmo cs t (0, 0) (by rw [← e]; exact hb)
  have hf := (hof.file (f := f.2) (g := g) (fun x hx => by obtain ⟨vs, ho, _⟩ := hof.out; exact own_base ho hx) (Nat.le_refl _) hv hl).in_
  refine ⟨a1.trans k (fun b hb e => ?_), a2.keep k (hno a2), a3.keep k (hno a3), a4.keep k (hno a4), ⟨rs ++ [(g, v)], ?_⟩, a9⟩
  · have := hfs.fm.1
    rw [show b = mb from e] at hb
    omega
  · refine ((hfs.mono (F' := fun b => w.heap.size ≤ b ∧ b < wr.heap.size) (fun b hb => ⟨hb.1, by omega⟩)).push k hm (hf.mono (fun b hb => ⟨by omega, hb.2⟩)) (fun r hr e => ?_) (fun r hr x hx hvx => ?_) hmo).mono (fun b hb => ⟨hb.1, Nat.lt_of_lt_of_le hb.2 k.size⟩)
    · obtain ⟨i, hi⟩ := List.mem_iff_getElem?.1 hr
      have hil : i < done.length := by rw [← hfs.len]; exact (List.getElem?_eq_some_iff.1 hi).1
      have := (hfs.file i _ r (List.getElem?_eq_getElem hil) hi).inF
      omega
    · obtain ⟨i, hi⟩ := List.mem_iff_getElem?.1 hr
      have hil : i < done.length := by rw [← hfs.len]; exact (List.getElem?_eq_some_iff.1 hi).1
      obtain ⟨vs, _, h4, _⟩ := (hfs.file i _ r (List.getElem?_eq_getElem hil) hi).row
      have := h4 x hx
      obtain ⟨vs2, ho2, _⟩ := hof.out
      have := own_base ho2 hvx
      omega
def mountD (block blocks : Int) (fs : List (ByteArray × AFile)) : DSt := { newD block blocks with files := fs, used := total fs, most := total fs }
theorem FilesIn.other {w w' : World} {F : Nat → Prop} {mb d : Nat} {t : TypeId} {cs : Array Value} {fs : List (ByteArray × AFile)} {rs : List (Nat × Value)} (h : FilesIn w F mb fs rs) (hd : Blk w d t cs) (k : Keep (fun b => b = d) w w') (h1 : t ≠ 160) (h2 : t ≠ 161) (h3 : t ≠ 5) : FilesIn w' F mb fs rs := {
  fm := h.fm
  map := h.map.of_heap (k.same _ h.map.lt (fun e => by obtain ⟨es, cl, hh, _⟩ := h.map; unfold Blk at hd; rw [show mb = d from e, hd] at hh; cases hh))
  len := h.len
  fbs := h.fbs
  file := fun i f r hf hr => by
    have g := h.file i f r hf hr
    refine g.keep k (Ne.symm (Blk.ne_ hd g.blk h1)) (fun x hx e => ?_) (fun b c fr _ hb e => ?_)
    · obtain ⟨vs, g3, _, _⟩ := g.row
      obtain ⟨cur, hc⟩ := own_blk g3 hx
      exact Blk.ne_ hd hc h2 (show d = x from (show x = d from e).symm)
    · unfold Blk at hd
      rw [show b = d from e, hd] at hb
      injection hb with hb
      injection hb with _ hb
      exact h3 hb
  row := h.row }
theorem MInv.done {w wr : World} {d mb : Nat} {block blocks : Int} {sv : Value} {fs : List (ByteArray × AFile)} (h : MInv w wr d mb block blocks sv fs) (h1 : 64 ≤ block) (h2 : block ≤ 65536) (h4 : 0 ≤ blocks) (h5 : blocks ≤ 1099511627776) (ht : (total fs : Int) ≤ blocks)
    (hb : ∀ f ∈ fs, ∀ b ∈ f.2.blocks, (b.length : Int) = block) (h8 : ∀ f ∈ fs, ∀ b ∈ f.2.blocks, ∀ x ∈ b, 0 ≤ x ∧ x ≤ 255) (hr : (fs.map (·.1)).Nodup) :
    ∃ R, DiskAt ((wr.setCell ⟨d, 10, none⟩ (.int .i64 (total fs))).setCell ⟨d, 11, none⟩ (.int .i64 (total fs))) (fun b => w.heap.size ≤ b ∧ b < wr.heap.size) d (mountD block blocks fs) R := by
  obtain ⟨a1, a2, a3, a4, ⟨rs, a5⟩, a9⟩ := h
  have k : Keep (fun b => b = d) wr ((wr.setCell ⟨d, 10, none⟩ (.int .i64 (total fs))).setCell ⟨d, 11, none⟩ (.int .i64 (total fs))) := ((Keep.refl (fun b => b = d) wr).setCell (p := ⟨d, 10, none⟩) (fun _ => rfl) _).setCell (p := ⟨d, 11, none⟩) (fun _ => rfl) _
  have hF := a5.other a2 k (by decide) (by decide) (by decide)
  refine ⟨{ mb := mb, reps := rs, tb := none, tc := 0 }, ?_⟩
  exact {
    blk := (a2.set_ 10 (.int .i64 (total fs))).set_ 11 (.int .i64 (total fs))
    fd := ⟨a9, a2.lt⟩
    fm := hF.fm
    map := hF.map
    len := hF.len
    fbs := hF.fbs
    file := hF.file
    row := hF.row
    trs := fun j u hu => by simp [mountD, newD, trCells] at hu
    ftr := fun b e => by cases e
    tcl := Nat.zero_le _
    tcm := Nat.zero_le _
    lt := fun b hb => Nat.lt_of_lt_of_le hb.2 k.size
    ok := ⟨h1, h2, h4, h5, rfl, ht, ht, Int.natCast_nonneg _, hb, h8, hr⟩ }
theorem blocks_total {fs : List (ByteArray × AFile)} {f : ByteArray × AFile} (h : f ∈ fs) : f.2.blocks.length ≤ total fs := le_sum (List.mem_map.2 ⟨f, h, rfl⟩)
theorem total_take_succ {fs : List (ByteArray × AFile)} {k : Nat} {f : ByteArray × AFile} (h : fs[k]? = some f) : total (fs.take (k + 1)) = total (fs.take k) + f.2.blocks.length := by
  rw [List.take_add_one, h, Option.toList_some, total_append]
  simp [total]
theorem total_take_le : ∀ (fs : List (ByteArray × AFile)) (k : Nat), total (fs.take k) ≤ total fs
  | [], k => by simp
  | f :: fs, 0 => by simp [total]
  | f :: fs, k + 1 => by
    have := total_take_le fs k
    simp only [List.take_succ_cons, total, List.map_cons, List.sum_cons] at *
    omega
theorem less_lt : ∀ (x y : List UInt8), Op.bytesLess x y = decide (x < y)
  | [], [] => by simp [Op.bytesLess]
  | _ :: _, [] => by simp [Op.bytesLess]
  | [], _ :: _ => by simp [Op.bytesLess]
  | a :: x, b :: y => by
    rw [Op.bytesLess, less_lt x y, Bool.eq_iff_iff]
    simp [List.cons_lt_cons_iff]
def rises (l : List ByteArray) : Prop := l.Pairwise fun a b => a.toList < b.toList
theorem rises_at {l : List ByteArray} {m : Nat} {a b : ByteArray} (h : rises l) (h1 : l[m]? = some a) (h2 : l[m + 1]? = some b) : Op.bytesLess b.toList a.toList = false ∧ (b.toList == a.toList) = false := by
  obtain ⟨g1, e1⟩ := List.getElem?_eq_some_iff.1 h1
  obtain ⟨g2, e2⟩ := List.getElem?_eq_some_iff.1 h2
  have hlt := List.pairwise_iff_getElem.1 h m (m + 1) g1 g2 (by omega)
  rw [e1, e2] at hlt
  refine ⟨?_, ?_⟩
  · rw [less_lt]
    exact decide_eq_false (fun h => List.lt_asymm hlt h)
  · rw [beq_eq_false_iff_ne]
    intro e
    rw [e] at hlt
    exact List.lt_irrefl _ hlt
theorem rises_new {fs : List (ByteArray × AFile)} {k : Nat} {f : ByteArray × AFile} (h : rises (fs.map (·.1))) (hf : fs[k]? = some f) : f.1 ∉ (fs.take k).map (·.1) := by
  intro hm
  obtain ⟨i, hi⟩ := List.mem_iff_getElem?.1 hm
  rw [List.getElem?_map, Option.map_eq_some_iff] at hi
  obtain ⟨p, hp, e⟩ := hi
  have hik : i < k := by have := (List.getElem?_eq_some_iff.1 hp).1; simp at this; omega
  rw [List.getElem?_take_of_lt hik] at hp
  obtain ⟨g1, e1⟩ := List.getElem?_eq_some_iff.1 hp
  obtain ⟨g2, e2⟩ := List.getElem?_eq_some_iff.1 hf
  have hlt := List.pairwise_iff_getElem.1 h i k (by simpa using g1) (by simpa using g2) hik
  rw [List.getElem_map, List.getElem_map, e1, e2, e] at hlt
  exact List.lt_irrefl _ hlt
theorem rises_nodup {l : List ByteArray} (h : rises l) : l.Nodup := h.imp (fun {a b} hlt e => by subst e; exact List.lt_irrefl _ hlt)
theorem fpos_none {s : ByteArray} : ∀ {fs : List (ByteArray × AFile)}, s ∉ fs.map (·.1) → fpos s fs = none
  | [], _ => rfl
  | (k, f) :: fs, h => by
    simp only [List.map_cons, List.mem_cons, not_or] at h
    have ih := fpos_none (fs := fs) h.2
    unfold fpos
    rw [if_neg h.1, ih]
    rfl
def MountPost (w : World) (block blocks : Int) (fs : List (ByteArray × AFile)) (e : Ending) (w' : World) : Prop :=
  ∃ d R, e = .returned (.tuple #[.pointer (some ⟨d, 0, none⟩), .int .i64 0]) ∧ DiskAt w' (fun b => w.heap.size ≤ b ∧ b < w'.heap.size) d (mountD block blocks fs) R ∧ Keep Nil w w'
set_option maxRecDepth 100000 in
set_option maxHeartbeats 4000000 in
theorem mount_ok (H : Nat → Prop) (v : Value) (block blocks : Int) (fs : List (ByteArray × AFile)) (w : World) (h : StAt w H v block fs) (h1 : 64 ≤ block) (h2 : block ≤ 65536) (h3 : block % 32 = 0) (h4 : 0 ≤ blocks) (h5 : blocks ≤ 1099511627776)
    (hn : ∀ f ∈ fs, okName f.1 = true) (hb : ∀ f ∈ fs, ∀ b ∈ f.2.blocks, (b.length : Int) = block) (h8 : ∀ f ∈ fs, ∀ b ∈ f.2.blocks, ∀ x ∈ b, 0 ≤ x ∧ x ≤ 255) (hrise : rises (fs.map (·.1))) (ht : (total fs : Int) ≤ blocks) (hlen : fs.length ≤ 1099511627776) :
    Calls Tryz.prog 57 #[v, .agg #[.int .i64 block, .int .i64 blocks, .slice none 0 0]] w (MountPost w block blocks fs) := by
  obtain ⟨u, rfl, hfl⟩ := h.out
  obtain ⟨A, c, rs, rfl, hrl, hrd, hin, _, hfs⟩ := hfl.out
  have hnew := fun W => new_ok block blocks W h1 h2 h3 h4 h5
  have HN := Hid.intro_ hnew
  have HRD := Hid.intro_ hrd
  have HFS := Hid.intro_ hfs
  clear hnew hrd hfs
  have qb : (block != block) = false := by simp
  go_enter Tryz.func57, Tryz.ntmps57
  go_wp2_with (go_at_call 120; refine (HN.out _).mono ?_; rintro e w1 ⟨d, mb, rfl, hD1, hm1, k1⟩
               have b2 := ((Blk.new w 28 #[.int .i64 block, .slice A fs.length c]).alloc (.cells #[.int .i64 block, .int .i64 blocks, .slice none 0 0] 136)).keep k1 (fun h => h)
               have b3 := (Blk.new_at (n := w.heap.size + 1) (w.alloc (.cells #[.int .i64 block, .slice A fs.length c] 28)) 136 #[.int .i64 block, .int .i64 blocks, .slice none 0 0] (by simp)).keep k1 (fun h => h)
               have z0 : w1.cell? ⟨w.heap.size, 0, none⟩ = some (.int .i64 block) := b2.at_ 0
               have z1 : w1.cell? ⟨w.heap.size, 1, none⟩ = some (.slice A fs.length c) := b2.at_ 1
               have y0 : w1.cell? ⟨w.heap.size + 1, 0, none⟩ = some (.int .i64 block) := b3.at_ 0
               have y1 : w1.cell? ⟨w.heap.size + 1, 1, none⟩ = some (.int .i64 blocks) := b3.at_ 1
               have l3 := b3.lt)
  have hI : Hid (MInv w w1 d mb block blocks (.slice A fs.length c) (fs.take 0)) := by
    have hz := hD1.fm
    have hnd := hD1.fd
    simp only [World.size_alloc] at hz hnd
    exact ⟨(((Keep.refl Nil w).alloc _).alloc _).then_ k1, hD1.blk, b2, b3, ⟨[], FilesIn.empty hm1 ⟨by omega, hz.2⟩⟩, by omega⟩
  have hnd : Hid (w.heap.size + 1 < d ∧ w.heap.size + 1 < mb) := by
    have hz := hD1.fm
    have hnd := hD1.fd
    simp only [World.size_alloc] at hz hnd
    exact ⟨by omega, by omega⟩
  have Hn := Hid.intro_ hn
  have Hb := Hid.intro_ hb
  have H8 := Hid.intro_ h8
  have HRise := Hid.intro_ hrise
  clear hD1 hm1 k1 b2 b3 z0 z1 y0 y1 hn hb h8 hrise hfl h
  go_loopw [8, 30] (fun n i wr => ∃ k : Nat, k ≤ fs.length ∧ i = .int .i64 k ∧ n = .int .i64 (total (fs.take k)) ∧ Hid (MInv w wr d mb block blocks (.slice A fs.length c) (fs.take k))) (fun _ i _ => fs.length - (intOf i).toNat)
  case atStart => exact ⟨0, Nat.zero_le _, rfl, rfl, hI⟩
  case round =>
    obtain ⟨k, hk, rfl, rfl, HM⟩ := hrel
    obtain ⟨wo, rfl⟩ : ∃ x : World, x = wr := ⟨_, rfl⟩
    by_cases hlt : k < fs.length
    · obtain ⟨f, hf⟩ : ∃ f, fs[k]? = some f := ⟨_, List.getElem?_eq_getElem hlt⟩
      obtain ⟨r, hr⟩ : ∃ r, rs[k]? = some r := ⟨_, List.getElem?_eq_getElem (by omega)⟩
      obtain ⟨q0, q1, q2⟩ := fileCells_at fs rs k f r hf hr
      obtain ⟨⟨ga, oa, sa⟩, rfl, p0⟩ := HRD.out _ _ q0
      obtain rfl : sa = none := (hin _ rfl).3
      obtain ⟨ad', e, p1⟩ := HRD.out _ _ q1
      injection e with e
      subst e
      obtain ⟨ad', e, p2⟩ := HRD.out _ _ q2
      injection e with e
      subst e
      rw [add_at] at p0 p1 p2
      rw [← Nat.add_assoc] at p1 p2
      obtain ⟨A2, c2, vs, rfl, hvl, hvr, hvi, hvt, hvb⟩ := (HFS.out k r f hr hf).out
      have HVR := Hid.intro_ hvr
      have HVB := Hid.intro_ hvb
      have HF := Hid.intro_ hf
      have okn := Hn.out f (List.mem_of_getElem? hf)
      have htot : total (fs.take k) + f.2.blocks.length ≤ total fs := by rw [← total_take_succ hf]; exact total_take_le _ _
      obtain ⟨kk, dk, sk, uk, fk, _⟩ := HM.out
      have p0' := cell_keep p0 kk (fun h => h)
      have p1' := cell_keep p1 kk (fun h => h)
      have p2' := cell_keep p2 kk (fun h => h)
      have z1 : wo.cell? ⟨w.heap.size, 1, none⟩ = some (.slice (some ⟨ga, oa, none⟩) fs.length c) := sk.at_ 1
      have lsk := sk.lt
      have lga := cell_lt p0'
      clear q0 q1 q2 hr hvr hvb hvt
      go_wp2
      go_cut [54] from 35 to 54 (fun v wc => v = .bool false ∧ Keep Nil (wo.alloc (.cells #[.string f.1, .bool f.2.done, .slice A2 f.2.blocks.length c2] 55)) wc)
      case first =>
        have hnm := fun W => named_any f.1 W
        rw [okn] at hnm
        have HNM := Hid.intro_ hnm
        have bx := Blk.new wo 55 #[.string f.1, .bool f.2.done, .slice A2 f.2.blocks.length c2]
        have kb := (Keep.refl Nil wo).alloc (.cells #[.string f.1, .bool f.2.done, .slice A2 f.2.blocks.length c2] 55)
        clear hnm
        rcases Nat.eq_zero_or_pos k with hk0 | hk0
        · subst hk0
          go_quiet ((go_at_call 121; exact Calls.quiet_of_same (HNM.out _)))
          go_wp2
          go_meet
          exact ⟨rfl, (Keep.refl Nil _).drewN _⟩
        · obtain ⟨m, rfl⟩ : ∃ m, k = m + 1 := ⟨k - 1, by omega⟩
          obtain ⟨f', hf'⟩ : ∃ f', fs[m]? = some f' := ⟨_, List.getElem?_eq_getElem (by omega)⟩
          obtain ⟨r', hr'⟩ : ∃ r', rs[m]? = some r' := ⟨_, List.getElem?_eq_getElem (by omega)⟩
          obtain ⟨q0, _, _⟩ := fileCells_at fs rs m f' r' hf' hr'
          obtain ⟨ad', e, p0''⟩ := HRD.out _ _ q0
          injection e with e
          subst e
          rw [add_at] at p0''
          have p3 := cell_keep p0'' kk (fun h => h)
          obtain ⟨s1, s2⟩ := rises_at HRise.out (show (fs.map (·.1))[m]? = some f'.1 by simp [hf']) (show (fs.map (·.1))[m + 1]? = some f.1 by simp [HF.out])
          have hw : IntKind.i64.wrap ((m : Int) + 1 - 1) = (m : Int) := by rw [show (m : Int) + 1 - 1 = (m : Int) from by omega]; exact IntWalk.i64_in _ (by omega)
          have hw2 : IntKind.i64.wrap (m : Int) = (m : Int) := IntWalk.i64_in _ (by omega)
          have hm0 : 0 ≤ (m : Int) := by omega
          have hm1 : (m : Int) < (fs.length : Int) := by omega
          have hm2 : (0 : Int) < (m : Int) + 1 := by omega
          clear q0 hr' hf'
          go_quiet ((go_at_call 121; exact Calls.quiet_of_same (HNM.out _)))
          go_wp2
          go_meet
          exact ⟨rfl, (Keep.refl Nil _).drewN _⟩
      case rest =>
        obtain ⟨rfl, kc⟩ := hcut
        have HM2 : Hid (MInv w wc d mb block blocks (.slice (some ⟨ga, oa, none⟩) fs.length c) (fs.take k)) := by
          have kx := ((Keep.refl Nil wo).alloc (.cells #[.string f.1, .bool f.2.done, .slice A2 f.2.blocks.length c2] 55)).then_ kc
          obtain ⟨a1, a2, a3, a4, ⟨rs', a5⟩, a6⟩ := HM.out
          exact ⟨a1.then_ kx, a2.keep kx (fun h => h), a3.keep kx (fun h => h), a4.keep kx (fun h => h), ⟨rs', (a5.nil kx).mono (fun b hb => ⟨hb.1, Nat.lt_of_lt_of_le hb.2 kx.size⟩)⟩, a6⟩
        have bx := Hid.intro_ ((Blk.new wo 55 #[.string f.1, .bool f.2.done, .slice A2 f.2.blocks.length c2]).keep kc (fun h => h))
        have x0 : wc.cell? ⟨wo.heap.size, 0, none⟩ = some (.string f.1) := bx.out.at_ 0
        have x1 : wc.cell? ⟨wo.heap.size, 1, none⟩ = some (.bool f.2.done) := bx.out.at_ 1
        have x2 : wc.cell? ⟨wo.heap.size, 2, none⟩ = some (.slice A2 f.2.blocks.length c2) := bx.out.at_ 2
        have lx := bx.out.lt
        obtain ⟨fdn, hfdn⟩ : ∃ b, b = f.2.done := ⟨_, rfl⟩
        rw [← hfdn] at x1
        have HFD := Hid.intro_ hfdn
        have kcc := Hid.intro_ kc
        clear kc hfdn
        obtain ⟨wb, rfl⟩ : ∃ x : World, x = wc := ⟨_, rfl⟩
        go_upto_if 58 with (fail)
        go_cut [] from 59 to 61 (fun wd => Blk wd wb.heap.size 160 #[.int .i64 (if fdn then 1 else 0), .slice none 0 0] ∧ Keep Nil wb wd)
        case first =>
          have bg := Blk.new wb 160 #[.int .i64 0, .slice none 0 0]
          have kg := (Keep.refl Nil wb).alloc (.cells #[.int .i64 0, .slice none 0 0] 160)
          cases fdn
          · go_wp2
            go_meet
            exact ⟨bg, kg⟩
          · go_wp2
            go_meet
            refine ⟨?_, ?_⟩
            · exact Blk.new wb 160 #[.int .i64 1, .slice none 0 0]
            · exact (Keep.refl Nil wb).alloc _
        case rest =>
          obtain ⟨hbg, hkg⟩ := hcut
          have hfdd := hnd.out
          obtain ⟨rs', a5⟩ := HM.out.files
          have hIn : Hid (MIn w wc wo.heap.size wb.heap.size d mb block blocks (.slice (some ⟨ga, oa, none⟩) fs.length c) (fs.take k) f.1 fdn (.slice A2 f.2.blocks.length c2) (f.2.blocks.take 0)) := by
            obtain ⟨b1, b2, b3, b4, _, b6⟩ := HM2.out
            have kx : Keep Nil wo wb := ((Keep.refl Nil wo).alloc _).then_ kcc.out
            refine ⟨b1.then_ hkg, b2.keep hkg (fun h => h), b3.keep hkg (fun h => h), b4.keep hkg (fun h => h), ⟨rs', (a5.nil kx).nil hkg⟩, by rw [HFD.out]; exact bx.out.keep hkg (fun h => h), ⟨_, hbg, OFs.nil_ _ _ _⟩, ⟨HM.out.disk.lt, uk.lt, a5.fm.2, lx, kk.size⟩, b6⟩
          have HBG := Hid.intro_ hbg
          have y2 : wc.cell? ⟨wo.heap.size, 2, none⟩ = some (.slice A2 f.2.blocks.length c2) := hIn.out.box.at_ 2
          clear hbg hkg a5
          go_wp2_with fail
          go_loopw [8, 65] (fun n j wi => ∃ m : Nat, m ≤ f.2.blocks.length ∧ j = .int .i64 m ∧ n = .int .i64 (total (fs.take k) + m) ∧ Hid (MIn w wi wo.heap.size wb.heap.size d mb block blocks (.slice (some ⟨ga, oa, none⟩) fs.length c) (fs.take k) f.1 fdn (.slice A2 f.2.blocks.length c2) (f.2.blocks.take m))) (fun _ j _ => f.2.blocks.length - (intOf j).toNat)
          case atStart => exact ⟨0, Nat.zero_le _, rfl, by simp, hIn⟩
          case round =>
            obtain ⟨m, hm, rfl, rfl, HI⟩ := hrel
            by_cases hmt : m < f.2.blocks.length
            · obtain ⟨bs, hbs⟩ : ∃ bs, f.2.blocks[m]? = some bs := ⟨_, List.getElem?_eq_getElem hmt⟩
              obtain ⟨u, hu⟩ : ∃ u, vs[m]? = some u := ⟨_, List.getElem?_eq_getElem (by omega)⟩
              have hbu := HVB.out m u bs hu hbs
              obtain ⟨⟨ga2, oa2, sa2⟩, rfl, p4⟩ := HVR.out m u hu
              obtain rfl : sa2 = none := (hvi _ rfl).3
              rw [add_at] at p4
              have hbl := Hb.out f (List.mem_of_getElem? HF.out) bs (List.mem_of_getElem? hbs)
              have HBS := Hid.intro_ hbs
              have HBU := Hid.intro_ hbu
              obtain ⟨A3, c3, rfl, _, _, _, _⟩ := hbu.out
              have p5 := cell_keep p4 HI.out.keep (fun h => h)
              have y0 : wr.cell? ⟨w.heap.size + 1, 0, none⟩ = some (.int .i64 block) := HI.out.su.at_ 0
              have qbl : ((bs.length : Int) != block) = false := by rw [hbl]; simp
              have hbs1 : 1 ≤ bs.length ∧ bs.length ≤ 65536 := by omega
              clear hbs hu hbu p4 hbl
              go_wp2_with fail
              obtain ⟨v, hv, hof⟩ := HI.out.file
              obtain ⟨vs0, ho0, hv0⟩ := hof.out
              have hml : (f.2.blocks.take m).length = m := by rw [List.length_take]; omega
              rw [hml] at ho0
              have hvo : v.oneCell' = true := by rcases ho0.2 with ⟨e, _⟩ | ⟨_, _, _, e, _⟩ <;> rw [e] <;> rfl
              have cv : wr.cell? ⟨wb.heap.size, 1, none⟩ = some v := hv.at_ 1
              have hvl : vs0.length = m := by simpa using ho0.1
              have nvg : ¬ v.ownBlock = some wb.heap.size := fun e => by
                obtain ⟨cur, hc⟩ := own_blk ho0 e
                exact Blk.ne_ hv hc (by decide) rfl
              have HO := Hid.intro_ ho0
              have HV0 := Hid.intro_ hv0
              have HVV := Hid.intro_ hv
              have hcl := clone_any H (.slice A3 bs.length c3) bs wr.drew (HBU.out.nil (HI.out.keep.drew)) hbs1.1 hbs1.2
              have HCL := Hid.intro_ hcl
              have hm40 : m ≤ 1099511627776 := by
                have h1 : f.2.blocks.length ≤ total fs := blocks_total (List.mem_of_getElem? HF.out)
                omega
              obtain ⟨i1, hi1, hy0, hy1, hy2⟩ := info_parts info_bytes
              have hml2 := Hid.intro_ (show (f.2.blocks.take m).length = m by rw [List.length_take]; omega)
              clear ho0 hv0 hcl hml hof
              go_cut [] from 74 to 84 (fun wc => MIn w wc wo.heap.size wb.heap.size d mb block blocks (.slice (some ⟨ga, oa, none⟩) fs.length c) (fs.take k) f.1 fdn (.slice (some ⟨ga2, oa2, none⟩) f.2.blocks.length c2) (f.2.blocks.take (m + 1)))
              case first =>
                go_region_law (first
                  | (refine step_append_own rfl (.tmp 78) (.tmp 81) 53 rfl wb.heap.size 161 i1 (.slice none 0 0) 1 24 Tryz.underlying53 hi1 hy0 hy1 hy2 rfl (by decide) v m vs0 (by simp [Act.eval]) (own_keep HO.out (((Keep.refl Nil wr).drew.then_ k2).alloc _) (fun g _ h => h)) ⟨w2.heap.size, 0, none⟩ 1 1 [.slice A4 bs.length c4] (by simp [Act.eval]) rfl (one_new _ _ _) (by simp [Value.oneCell']) (by unfold maxLen; omega) (by omega) (by have := k2.size; have := HVV.out.lt; simp at *; omega) ?_; intro av cv3 w3 ho3 k3 hv3
                     have b3 := ((HVV.out.keep ((Keep.refl Nil wr).drew.then_ k2) (fun h => h)).alloc (.cells #[.slice A4 bs.length c4] 161)).keep k3 nvg
                     have x3 : w3.cell? ⟨wb.heap.size, 1, none⟩ = some v := b3.at_ 1
                     have y3 := b3.fr 1)
                  | (go_simp; go_at_call 71; refine HCL.out.mono ?_; rintro e w2 ⟨u2, rfl, hb2, k2⟩
                     obtain ⟨A4, c4, rfl, _, _, _, _⟩ := hb2.out
                     have cv2 := cell_keep (w := wr.drew) cv k2 (fun h => h)
                     have lw2 : wb.heap.size < w2.heap.size := cell_lt cv2
                     have HB2 := Hid.intro_ hb2
                     clear hb2))
                all_goals
                  go_wp2_with fail
                  go_meet
                  have htk : f.2.blocks.take (m + 1) = f.2.blocks.take m ++ [bs] := by rw [List.take_add_one, HBS.out]; rfl
                  rw [htk]
                  exact MIn.push HI.out HVV.out (by rw [hml2.out]; exact HO.out) HV0.out ((Keep.refl Nil wr).drew.then_ k2) HB2.out ((Keep.refl Nil w2).alloc _) (by rw [hml2.out]; exact ho3.out) k3 (by simpa using hv3.out)
              case rest =>
                have HI2 := Hid.intro_ hcut
                clear hcut
                go_wp2
                go_roundw
                case rel => exact ⟨m + 1, by omega, by go_num, by go_num, HI2⟩
                case measure => simp [intOf]; omega
            · obtain rfl : m = f.2.blocks.length := by omega
              have hI := HI.out
              rw [List.take_length] at hI
              have c0 : wr.cell? ⟨wo.heap.size, 0, none⟩ = some (.string f.1) := hI.box.at_ 0
              have e3 : wr.cell? ⟨d, 3, none⟩ = some (.map (some mb)) := hI.disk.at_ 3
              obtain ⟨rs2, hfs2⟩ := hI.files
              have hp := (pos_links f.1 (fs.take k) rs2 hfs2.len).1 (fpos_none (rises_new HRise.out HF.out))
              have hm0 : MapAt wr.drew mb (links (fs.take k) rs2) := hfs2.map
              obtain ⟨w2, hu, hm2, hsz, ho, ht', hout, hb2⟩ := hm0.put Tryz.underlying151 Tryz.underlying9 f.1 (.pointer (some ⟨wb.heap.size, 0, none⟩)) hp
              have hk2 : Keep (fun b => b = mb) wr w2 := ⟨ho, ht', hout, by rw [hsz]; exact Nat.le_refl _, fun b _ hne => hb2 b hne⟩
              have hdone : Hid (MInv w w2 d mb block blocks (.slice (some ⟨ga, oa, none⟩) fs.length c) (fs.take (k + 1))) := by
                have htk : fs.take (k + 1) = fs.take k ++ [f] := by rw [List.take_add_one, HF.out]; rfl
                rw [htk]
                rw [HFD.out] at hI
                exact MIn.done hI (fun b hb => by have := Hb.out f (List.mem_of_getElem? HF.out) b hb; omega) rs2 hfs2 hm2 hk2
              have htt : Hid (total (fs.take (k + 1)) = total (fs.take k) + f.2.blocks.length) := total_take_succ HF.out
              clear hp hm0 hm2 hsz ho ht' hout hb2 hk2 hI
              go_wp2_with fail
              go_still_tail 7, (by kernel_rfl)
              change wpList _ _ _ _ _ wr.drew
              go_wp2
              go_roundw
              case rel => exact ⟨k + 1, by omega, by go_num, by rw [htt.out]; go_num, hdone⟩
              case measure => simp [intOf]; omega
    · obtain rfl : k = fs.length := by omega
      have hM := HM.out
      rw [List.take_length] at hM
      have y1 : wo.cell? ⟨w.heap.size + 1, 1, none⟩ = some (.int .i64 blocks) := hM.su.at_ 1
      have x10 : wo.cell? ⟨d, 10, none⟩ = some (.int .i64 0) := hM.disk.at_ 10
      have x11 : wo.cell? ⟨d, 11, none⟩ = some (.int .i64 0) := hM.disk.at_ 11
      have f10 := hM.disk.fr 10
      have f11 := hM.disk.fr 11
      have htl : Hid (total (fs.take fs.length) = total fs) := by rw [List.take_length]; exact Hid.intro_ rfl
      have hfin := Hid.intro_ (hM.done h1 h2 h4 h5 ht Hb.out H8.out (rises_nodup HRise.out))
      have hkk := Hid.intro_ hM.keep
      have hnd2 := hM.nd
      obtain ⟨T, hT⟩ : ∃ T, T = total (fs.take fs.length) := ⟨_, rfl⟩
      rw [← hT] at htl
      rw [← hT]
      have htl2 : T = total fs := htl.out
      subst htl2
      clear hT hM
      go_wp2
      go_ret2
      obtain ⟨R, hD⟩ := hfin.out
      refine ⟨d, R, rfl, ?_, ?_⟩
      · have e : (fun b => w.heap.size ≤ b ∧ b < ((wo.setCell ⟨d, 10, none⟩ (.int .i64 (total fs))).setCell ⟨d, 11, none⟩ (.int .i64 (total fs))).heap.size) = (fun b => w.heap.size ≤ b ∧ b < wo.heap.size) := by funext b; simp [World.setCell]
        rw [e]
        exact hD
      · exact (hkk.out.setCell (p := ⟨d, 10, none⟩) (fun h => absurd h (by simp; omega)) _).setCell (p := ⟨d, 11, none⟩) (fun h => absurd h (by simp; omega)) _
end Go.Proofs.YtadipinnbehhhaaGreatDoor
namespace Go.Proofs
open Go.RowKit Go.Maps Go.Sort Go.Shelf

-- maps.Keys[map[string]*strata/disk.file,string,*strata/disk.file] (function 70; its iterator 145) · slices.Sorted[string] (69) · slices.Sort[[]string,string] (144) · the map's type 151, the keys' 9
def Tryz.keys70_ren : Go.Shelf.Ren := ⟨fun | 7 => 70 | 10 => 145 | n => n, fun | 23 => 151 | 26 => 9 | 3 => 158 | 28 => 156 | 0 => 0 | 27 => 155 | 33 => 234 | 4 => 4 | n => n, fun | n => n⟩
theorem Tryz.keys70 : Go.Proofs.SlLaysZ.n7 Tryz.prog Tryz.keys70_ren := {
  mixed := by kernel_rfl
  f7 := ⟨Tryz.f70.name, by decide, Tryz.func70.trans (congrArg some (by kernel_rfl))⟩
  f10 := ⟨Tryz.f145.name, by decide, Tryz.func145.trans (congrArg some (by kernel_rfl))⟩
  t0 := Tryz.underlying0
  a0 := Tryz.isAgg0
  z0 := Tryz.sizeOf0
  v0 := Tryz.zeroValue0
  t4 := Tryz.underlying4
  a4 := Tryz.isAgg4
  z4 := Tryz.sizeOf4
  v4 := Tryz.zeroValue4
  t23 := Tryz.underlying151
  a23 := Tryz.isAgg151
  z23 := Tryz.sizeOf151
  v23 := Tryz.zeroValue151
  t26 := Tryz.underlying9
  a26 := Tryz.isAgg9
  z26 := Tryz.sizeOf9
  v26 := Tryz.zeroValue9
  t27 := Tryz.underlying155
  a27 := Tryz.isAgg155
  z27 := Tryz.sizeOf155
  v27 := Tryz.zeroValue155
  t28 := Tryz.underlying156
  a28 := Tryz.isAgg156
  z28 := Tryz.sizeOf156
  v28 := Tryz.zeroValue156
  t33 := Tryz.underlying234
  a33 := Tryz.isAgg234
  z33 := Tryz.sizeOf234
  v33 := Tryz.zeroValue234 }
def Tryz.sorted69_ren : Go.Shelf.Ren := ⟨fun | 6 => 69 | 8 => 143 | 9 => 144 | 11 => 195 | 13 => 197 | 12 => 196 | 23 => 248 | 24 => 249 | 14 => 239 | 15 => 240 | 16 => 241 | 17 => 242 | 18 => 243 | 19 => 244 | 20 => 245 | 21 => 246 | 22 => 247 | 25 => 276 | 26 => 277 | 27 => 278 | 28 => 279 | 29 => 280 | 30 => 281 | 31 => 289 | n => n, fun | 26 => 9 | 28 => 156 | 24 => 112 | 0 => 0 | 3 => 3 | 37 => 268 | 48 => 236 | 50 => 43 | 4 => 4 | 40 => 357 | 39 => 356 | 45 => 362 | 5 => 5 | 9 => 9 | 51 => 385 | 55 => 389 | 57 => 407 | 58 => 408 | 33 => 234 | n => n, fun | n => n⟩
theorem Tryz.sorted69 : Go.Proofs.SlLaysZ.n6 Tryz.prog Tryz.sorted69_ren := {
  mixed := by kernel_rfl
  f6 := ⟨Tryz.f69.name, by decide, Tryz.func69.trans (congrArg some (by kernel_rfl))⟩
  f8 := ⟨Tryz.f143.name, by decide, Tryz.func143.trans (congrArg some (by kernel_rfl))⟩
  f11 := ⟨Tryz.f195.name, by decide, Tryz.func195.trans (congrArg some (by kernel_rfl))⟩
  t0 := Tryz.underlying0
  a0 := Tryz.isAgg0
  z0 := Tryz.sizeOf0
  v0 := Tryz.zeroValue0
  t24 := Tryz.underlying112
  a24 := Tryz.isAgg112
  z24 := Tryz.sizeOf112
  v24 := Tryz.zeroValue112
  t26 := Tryz.underlying9
  a26 := Tryz.isAgg9
  z26 := Tryz.sizeOf9
  v26 := Tryz.zeroValue9
  t28 := Tryz.underlying156
  a28 := Tryz.isAgg156
  z28 := Tryz.sizeOf156
  v28 := Tryz.zeroValue156
  i26 := by kernel_rfl }
def Tryz.sort144_ren : Go.Shelf.Ren := ⟨fun | 6 => 144 | 8 => 197 | 9 => 196 | 19 => 248 | 20 => 249 | 21 => 239 | 22 => 240 | 23 => 241 | 24 => 242 | 25 => 243 | 26 => 244 | 27 => 245 | 28 => 246 | 29 => 247 | 36 => 276 | 31 => 277 | 32 => 278 | 37 => 279 | 38 => 280 | 39 => 281 | 41 => 289 | n => n, fun | 27 => 112 | 29 => 9 | 3 => 3 | 32 => 268 | 26 => 112 | 0 => 0 | 44 => 236 | 46 => 43 | 4 => 4 | 36 => 357 | 35 => 356 | 41 => 362 | 5 => 5 | 9 => 9 | 53 => 385 | 57 => 389 | 63 => 407 | 64 => 408 | n => n, fun | n => n⟩
theorem Tryz.sort144 : Go.Proofs.SlLaysM.n6 Tryz.prog Tryz.sort144_ren := {
  mixed := by kernel_rfl
  f6 := ⟨Tryz.f144.name, by decide, Tryz.func144.trans (congrArg some (by kernel_rfl))⟩
  f8 := Tryz.func197.trans (congrArg some (by kernel_rfl))
  f9 := ⟨Tryz.f196.name, by decide, Tryz.func196.trans (congrArg some (by kernel_rfl))⟩
  f19 := Tryz.func248.trans (congrArg some (by kernel_rfl))
  f20 := Tryz.func249.trans (congrArg some (by kernel_rfl))
  f21 := ⟨Tryz.f239.name, by decide, Tryz.func239.trans (congrArg some (by kernel_rfl))⟩
  f22 := ⟨Tryz.f240.name, by decide, Tryz.func240.trans (congrArg some (by kernel_rfl))⟩
  f23 := ⟨Tryz.f241.name, by decide, Tryz.func241.trans (congrArg some (by kernel_rfl))⟩
  f24 := ⟨Tryz.f242.name, by decide, Tryz.func242.trans (congrArg some (by kernel_rfl))⟩
  f25 := ⟨Tryz.f243.name, by decide, Tryz.func243.trans (congrArg some (by kernel_rfl))⟩
  f26 := ⟨Tryz.f244.name, by decide, Tryz.func244.trans (congrArg some (by kernel_rfl))⟩
  f27 := ⟨Tryz.f245.name, by decide, Tryz.func245.trans (congrArg some (by kernel_rfl))⟩
  f28 := ⟨Tryz.f246.name, by decide, Tryz.func246.trans (congrArg some (by kernel_rfl))⟩
  f29 := ⟨Tryz.f247.name, by decide, Tryz.func247.trans (congrArg some (by kernel_rfl))⟩
  f31 := Tryz.func277.trans (congrArg some (by kernel_rfl))
  f32 := Tryz.func278.trans (congrArg some (by kernel_rfl))
  f36 := ⟨Tryz.f276.name, by decide, Tryz.func276.trans (congrArg some (by kernel_rfl))⟩
  f37 := ⟨Tryz.f279.name, by decide, Tryz.func279.trans (congrArg some (by kernel_rfl))⟩
  f38 := ⟨Tryz.f280.name, by decide, Tryz.func280.trans (congrArg some (by kernel_rfl))⟩
  f39 := ⟨Tryz.f281.name, by decide, Tryz.func281.trans (congrArg some (by kernel_rfl))⟩
  f41 := ⟨Tryz.f289.name, by decide, Tryz.func289.trans (congrArg some (by kernel_rfl))⟩
  t0 := Tryz.underlying0
  a0 := Tryz.isAgg0
  z0 := Tryz.sizeOf0
  v0 := Tryz.zeroValue0
  t3 := Tryz.underlying3
  a3 := Tryz.isAgg3
  z3 := Tryz.sizeOf3
  v3 := Tryz.zeroValue3
  t4 := Tryz.underlying4
  a4 := Tryz.isAgg4
  z4 := Tryz.sizeOf4
  v4 := Tryz.zeroValue4
  t5 := Tryz.underlying5
  a5 := Tryz.isAgg5
  z5 := Tryz.sizeOf5
  v5 := Tryz.zeroValue5
  t9 := Tryz.underlying9
  a9 := Tryz.isAgg9
  z9 := Tryz.sizeOf9
  v9 := Tryz.zeroValue9
  t26 := Tryz.underlying112
  a26 := Tryz.isAgg112
  z26 := Tryz.sizeOf112
  v26 := Tryz.zeroValue112
  t27 := Tryz.underlying112
  a27 := Tryz.isAgg112
  z27 := Tryz.sizeOf112
  v27 := Tryz.zeroValue112
  t29 := Tryz.underlying9
  a29 := Tryz.isAgg9
  z29 := Tryz.sizeOf9
  v29 := Tryz.zeroValue9
  t32 := Tryz.underlying268
  a32 := Tryz.isAgg268
  z32 := Tryz.sizeOf268
  v32 := Tryz.zeroValue268
  t35 := Tryz.underlying356
  a35 := Tryz.isAgg356
  z35 := Tryz.sizeOf356
  v35 := Tryz.zeroValue356
  t36 := Tryz.underlying357
  a36 := Tryz.isAgg357
  z36 := Tryz.sizeOf357
  v36 := Tryz.zeroValue357
  t41 := Tryz.underlying362
  a41 := Tryz.isAgg362
  z41 := Tryz.sizeOf362
  v41 := Tryz.zeroValue362
  t44 := Tryz.underlying236
  a44 := Tryz.isAgg236
  z44 := Tryz.sizeOf236
  v44 := Tryz.zeroValue236
  t46 := Tryz.underlying43
  a46 := Tryz.isAgg43
  z46 := Tryz.sizeOf43
  v46 := Tryz.zeroValue43
  t53 := Tryz.underlying385
  a53 := Tryz.isAgg385
  z53 := Tryz.sizeOf385
  v53 := Tryz.zeroValue385
  t57 := Tryz.underlying389
  a57 := Tryz.isAgg389
  z57 := Tryz.sizeOf389
  v57 := Tryz.zeroValue389
  t63 := Tryz.underlying407
  a63 := Tryz.isAgg407
  z63 := Tryz.sizeOf407
  v63 := Tryz.zeroValue407
  t64 := Tryz.underlying408
  a64 := Tryz.isAgg408
  z64 := Tryz.sizeOf408
  v64 := Tryz.zeroValue408 }
/-- slices.Sort's two contracts at this dump, at the fence that asks nothing. -/
theorem Tryz.sorts69 (m : Nat) : AnyZ.SortsIn Tryz.prog Tryz.sorted69_ren Fence.wide m :=
  ⟨fun blk off cap ss W hH hblk hsz => callsIn_wide.2 (AnyM.slices_Sort_string Tryz.sort144 blk off cap ss W hH hblk hsz),
   fun p cap W => callsIn_wide.2 (AnyM.slices_Sort_string_none Tryz.sort144 p cap W)⟩
/-- **maps.Keys[map[string]*strata/disk.file,string,*strata/disk.file], at whatever map, the nil one too:** a function value over ONE NEW BLOCK, which holds the map. -/
theorem Tryz.maps_Keys_70 (mb : Option Nat) (W : World) : CallsIn Fence.wide 5 Tryz.prog 70 #[.map mb] W fun e w' => e = .returned (.func (.func 145) #[] #[.pointer (some ⟨W.heap.size, 0, none⟩)]) ∧ w' = W.alloc (.cells #[.map mb] 151) :=
  AnyZ.keys_in Tryz.keys70 Fence.wide 5 trivial rfl mb W
set_option maxHeartbeats 1000000 in
/-- **slices.Sorted[string] AT WHAT maps.Keys[map[string]*strata/disk.file,string,*strata/disk.file] HANDED BACK FOR A MAP THAT IS NOT nil** ('w': the world AHEAD of maps.Keys' call): A NEW SLICE THAT HOLDS THE MAP's KEYS, SORTED; nil just where it has none; nothing that lay before has turned. -/
theorem Tryz.slices_Sorted_keys_69_70 {H : Type} (b nn : Nat) (D0 : DataW H) (R : Value → Option (DataW H × List MemPlace)) (w : World) (hown : w.ownsMap Tryz.prog 9 R b nn D0) (hmax : Maps.size D0 ≤ maxLen) (hbytes : Maps.size D0 * 16 ≤ 140737488355328) :
    CallsIn Fence.wide 5 Tryz.prog 69 #[.func (.func 145) #[] #[.pointer (some ⟨w.heap.size, 0, none⟩)]] (w.alloc (.cells #[.map (some b)] 151)) fun e w' => ∃ (v : Value) (ss : List (List UInt8)), e = .returned v ∧ ss.Perm (strKeys D0) ∧
      w'.ownsRow (w.alloc (.cells #[.map (some b)] 151)).heap.size 9 1 v ss.length ((ss.mergeSort (fun x y => decide (x ≤ y))).map encStr) ∧ (v = .slice none 0 0 ↔ ss = []) ∧ Below (w.alloc (.cells #[.map (some b)] 151)).heap.size (w.alloc (.cells #[.map (some b)] 151)) w' := by
  have hbl := hown.lt
  have hseq : SeqGives Fence.wide 2 Tryz.prog 145 #[.pointer (some ⟨w.heap.size, 0, none⟩)] encStr (fun ss => ss.Perm (strKeys D0)) (Maps.size D0) (w.alloc (.cells #[.map (some b)] 151)) :=
    AnyZ.keys_gives (ρ := Tryz.keys70_ren) { Tryz.keys70 with } Fence.wide _ trivial rfl (by omega) w.heap.size b nn D0 _ (by simp) (by simp) (by
      obtain ⟨es, clock, hb, Ft, hs, hD⟩ := hown
      exact ⟨es, clock, (Below.heap_alloc _ _ b hbl).trans hb, Ft, hs, hD⟩)
  exact AnyZ.sorted_in Tryz.sorted69 Fence.wide 5 trivial trivial trivial trivial rfl (by omega) (Tryz.sorts69 _) (enters_of Tryz.func144 (by kernel_rfl) rfl) 145 #[.pointer (some ⟨w.heap.size, 0, none⟩)] trivial (enters_of Tryz.func145 (by kernel_rfl) rfl) _ _ hmax hbytes _ hseq
set_option maxHeartbeats 1000000 in
/-- **.. AND FOR THE nil MAP: nil.** -/
theorem Tryz.slices_Sorted_keys_nil_69_70 (w : World) :
    CallsIn Fence.wide 5 Tryz.prog 69 #[.func (.func 145) #[] #[.pointer (some ⟨w.heap.size, 0, none⟩)]] (w.alloc (.cells #[.map none] 151)) fun e w' => ∃ (v : Value) (ss : List (List UInt8)), e = .returned v ∧ ss = [] ∧
      w'.ownsRow (w.alloc (.cells #[.map none] 151)).heap.size 9 1 v ss.length ((ss.mergeSort (fun x y => decide (x ≤ y))).map encStr) ∧ (v = .slice none 0 0 ↔ ss = []) ∧ Below (w.alloc (.cells #[.map none] 151)).heap.size (w.alloc (.cells #[.map none] 151)) w' := by
  have hseq : SeqGives Fence.wide 2 Tryz.prog 145 #[.pointer (some ⟨w.heap.size, 0, none⟩)] encStr (fun ss : List (List UInt8) => ss = []) 0 (w.alloc (.cells #[.map none] 151)) :=
    AnyZ.keys_gives_nil (ρ := Tryz.keys70_ren) { Tryz.keys70 with } Fence.wide _ trivial rfl w.heap.size _ (by simp) (by simp)
  exact AnyZ.sorted_in Tryz.sorted69 Fence.wide 5 trivial trivial trivial trivial rfl (by omega) (Tryz.sorts69 _) (enters_of Tryz.func144 (by kernel_rfl) rfl) 145 #[.pointer (some ⟨w.heap.size, 0, none⟩)] trivial (enters_of Tryz.func145 (by kernel_rfl) rfl) _ 0 (Nat.zero_le _) (by omega) _ hseq
-- THE CALLER's WALK over 'slices.Sorted(maps.Keys(m))' (inside '(callsIn_wide (n := 6)).1'; 'have hfK : Fence.wide.fn 70 := trivial', 'have hfS : Fence.wide.fn 69 := trivial' ahead): THE TWO ARMS TO PASTE:
--   gi_wp2_with (first
--     | (gi_at_call 70; refine (Tryz.maps_Keys_70 _ _).mono ?_; rintro e w' ⟨rfl, rfl⟩)
--     | (gi_at_call 69; refine (Tryz.slices_Sorted_keys_69_70 b nn D0 R w hown hmax hbytes).mono ?_; rintro e w' ⟨v, ss, rfl, hS, hrow, hnil, hb⟩))


end Go.Proofs
namespace Go.Proofs.YtadipinnbehhhaaGreatDoor
open Go.RowKit Go.Maps Go.Sort Go.WideShapes Go.WideMaps

end Go.Proofs.YtadipinnbehhhaaGreatDoor
namespace Go.Proofs.YtadipinnbehhhaaGreatDoor
open Go.RowKit Go.Maps Go.Sort

theorem info_file : (Tryz.prog.info? 55).map (fun i => (i.zero, i.size, i.bytes)) = some (some (.agg #[.string ⟨#[]⟩, .bool false, .slice none 0 0]), 3, 48) := by kernel_rfl
theorem own_form {w : World} {base : Nat} {e : TypeId} {size n : Nat} {v : Value} {xs : List Value} (h : w.ownsRow base e size v n xs) : ∃ A c, v = .slice A n c := by
  rcases h.2 with ⟨e, h0⟩ | ⟨g, cap, cur, e, _⟩
  · exact ⟨none, 0, by rw [e, h0]⟩
  · exact ⟨_, _, e⟩
theorem own_at {w : World} {base n c j : Nat} {e : TypeId} {A : Option Addr} {u : Value} {xs : List Value} (h : w.ownsRow base e 1 (.slice A n c) n xs) (hj : xs[j]? = some u) : ∃ g, A = some ⟨g, 0, none⟩ ∧ w.cell? ⟨g, j, none⟩ = some u := by
  obtain ⟨ad, e, hc⟩ := own_rd h j u hj
  rcases h.2 with ⟨e2, h0⟩ | ⟨g, cap, cur, e2, _⟩
  · injection e2 with e2; rw [e] at e2; cases e2
  · injection e2 with e2
    rw [e] at e2
    injection e2 with e2
    subst e2
    rw [add_at, Nat.zero_add] at hc
    exact ⟨g, e, hc⟩
end Go.Proofs.YtadipinnbehhhaaGreatDoor
