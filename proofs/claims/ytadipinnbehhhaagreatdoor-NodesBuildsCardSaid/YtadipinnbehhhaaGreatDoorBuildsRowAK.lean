/- The references' Copy: a state of one's own. The references' Blocks and Tape: records as blocks. The references' SameRecs: at the same records it answers true. The references' State: files in the order of their names. -/
import Derived.Laws.AppendOwn
import Derived.Laws.StructEq
import Derived.KernelRfl
import Derived.Test.YtadipinnbehhhaaGreatDoorBuildsRowAJ
namespace Go.Proofs.YtadipinnbehhhaaGreatDoor
open Go.RowKit

theorem toB_get (bs : List Int) (h8 : ∀ x ∈ bs, 0 ≤ x ∧ x ≤ 255) (j : Nat) (v : Value) (h : (by8 bs)[j]? = some v) : ∃ hj : j < (toB bs).length, v = .int .u8 ((toB bs)[j].toNat : Int) := by
  unfold by8 at h
  rw [List.getElem?_map, Option.map_eq_some_iff] at h
  obtain ⟨x, hx, rfl⟩ := h
  obtain ⟨hj, e⟩ := List.getElem?_eq_some_iff.1 hx
  have := h8 x (List.mem_of_getElem? hx)
  refine ⟨by rw [toB_len]; exact hj, ?_⟩
  congr 1
  simp only [toB, List.getElem_map, UInt8.toNat_ofNat', e]
  omega
/-- Bytes of a string of one's own. -/
theorem bytes_new (w : World) (bs : List Int) (h8 : ∀ x ∈ bs, 0 ≤ x ∧ x ≤ 255) (cap : Nat) (hc : bs.length ≤ cap) (fr : Nat × Nat) :
    BsAt (w.alloc (.cells (bytesRow ⟨(toB bs).toArray⟩ cap) 5 fr)) (fun b => b = w.heap.size) (.slice (some ⟨w.heap.size, 0, none⟩) bs.length cap) bs := by
  have hh : (w.alloc (.cells (bytesRow ⟨(toB bs).toArray⟩ cap) 5 fr)).heap[w.heap.size]? = some (.cells (bytesRow ⟨(toB bs).toArray⟩ cap) 5 fr) := by
    show (w.heap.push _)[w.heap.size]? = _
    simp
  refine ⟨some ⟨w.heap.size, 0, none⟩, cap, rfl, hc, fun j v hv => ?_, fun a e => by injection e with e; subst e; exact ⟨rfl, lt_of_heap hh, rfl⟩, fun a e => by injection e with e; subst e; exact ⟨_, _, hh⟩⟩
  obtain ⟨hj, rfl⟩ := toB_get bs h8 j v hv
  refine ⟨_, rfl, ?_⟩
  rw [add_at, Nat.zero_add]
  have := bytesRow_at ⟨(toB bs).toArray⟩ cap j (by simpa using hj)
  simp only [World.cell?, hh]
  simpa using this

/-- What stands of Copy in the midst of a file. -/
structure CoIn (w wi : World) (B : Nat) (block : Int) (sv : Value) (done : List (ByteArray × AFile)) (s : ByteArray) (fd : Bool) (bl : List (List Int)) : Prop where mk ::
  keep : Keep Nil w wi
  st : Blk wi w.heap.size 28 #[.int .i64 block, sv]
  res : Blk wi (w.heap.size + 1) 28 #[.int .i64 0, .slice none 0 0]
  out : ∃ v, Blk wi (w.heap.size + 2) 28 #[.int .i64 block, v] ∧ OFl wi (w.heap.size + 3) (fun b => w.heap.size ≤ b ∧ b < B) v done ∧ ∀ g, v.ownBlock = some g → g < B
  file : ∃ v, Blk wi B 55 #[.string s, .bool fd, v] ∧ OFs wi B (fun b => B ≤ b) v bl
  lt : w.heap.size + 2 < B

theorem CoIn.push {w wr w2' w3 : World} {B : Nat} {block : Int} {sv v v' u : Value} {done : List (ByteArray × AFile)} {s : ByteArray} {fd : Bool} {bl : List (List Int)} {bs : List Int} {vs0 : List Value}
    (h : CoIn w wr B block sv done s fd bl) (hv : Blk wr B 55 #[.string s, .bool fd, v]) (ho : wr.ownsRow B 161 1 v bl.length vs0)
    (hv0 : ∀ (j : Nat) (u : Value) (bs : List Int), vs0[j]? = some u → bl[j]? = some bs → BsAt wr (fun b => B ≤ b) u bs) (kk : Keep Nil wr w2') (hb2 : BsAt w2' (fun b => wr.heap.size ≤ b) u bs)
    (ho3 : w3.ownsRow B 161 1 v' (bl.length + 1) (vs0 ++ [u])) (k3 : Keep (fun b => v.ownBlock = some b) w2' w3) (hv3 : v'.ownBlock = v.ownBlock ∨ v'.ownBlock = some w2'.heap.size) :
    CoIn w (w3.setCell ⟨B, 2, none⟩ v') B block sv done s fd (bl ++ [bs]) := by
  obtain ⟨a1, a2, a3, ⟨vo, a4, a5, a6⟩, _, l1⟩ := h
  have hg := hv.lt
  have hvg : ∀ b, v.ownBlock = some b → B ≤ b := fun b hb => own_base ho hb
  have nvg : ¬ v.ownBlock = some B := fun e => by
    obtain ⟨cur, hc⟩ := own_blk ho e
    exact Blk.ne_ hv hc (by decide) rfl
  have nvg' : ¬ v'.ownBlock = some B := fun e => by
    rcases hv3 with h3 | h3
    · exact nvg (by rw [← h3]; exact e)
    · rw [h3] at e; injection e with e; have := kk.size; omega
  have K : Keep (fun b => B ≤ b) wr (w3.setCell ⟨B, 2, none⟩ v') := ((kk.mono (fun _ _ h => h.elim)).trans (k3.mono (fun b _ hb => hvg b hb)) (fun _ _ h => h)).setCell (p := ⟨B, 2, none⟩) (fun _ => Nat.le_refl _) _
  have low : ∀ b, b < B → ¬ (B ≤ b) := fun b hb => by omega
  refine ⟨a1.trans K (fun b hb e => by omega), a2.keep K (low _ (by omega)), a3.keep K (low _ (by omega)), ⟨vo, a4.keep K (low _ (by omega)), a5.keep K (fun g hg => low _ (a6 g hg)) (fun b hb _ => low b hb.2), a6⟩, ⟨v', ?_, ?_⟩, l1⟩
  · exact ((hv.keep kk (fun h => h)).keep k3 nvg).set_ 2 v'
  · have hw3 : OFs w3 B (fun b => B ≤ b) v' (bl ++ [bs]) := by
      refine OFs.push (w1 := w2') (vs := vs0) (v := v) (fun j u bs hu hb => (hv0 j u bs hu hb).nil kk) (by simpa using ho.1) (hb2.mono (fun b hb _ => by omega)) ho3 k3 (fun x hx cs fr hc => ?_)
      obtain ⟨cur, hc2⟩ := own_blk ho hx
      have h1 := hc2.keep kk (fun h => h)
      unfold Blk at h1
      rw [hc] at h1
      injection h1 with h1
      injection h1 with _ h1
      exact absurd h1 (by decide)
    obtain ⟨vs1, o1, o2⟩ := hw3.out
    have h3 := (hv.keep kk (fun h => h)).keep k3 nvg
    refine ⟨vs1, own_keep o1 ((Keep.refl (fun b => b = B) w3).setCell (p := ⟨B, 2, none⟩) (fun _ => rfl) _) (fun x hx e => nvg' (by rw [← show x = B from e]; exact hx)), fun j u bs hu hb => ?_⟩
    refine (o2 j u bs hu hb).far (g := B) ((Keep.refl (fun b => b = B) w3).setCell (p := ⟨B, 2, none⟩) (fun _ => rfl) _) (fun cs fr hc => ?_)
    unfold Blk at h3
    rw [hc] at h3
    injection h3 with h3
    injection h3 with _ h3
    exact absurd h3 (by decide)

/-- The file lies in the row. -/
theorem CoIn.done {w wr w2 w3 : World} {B : Nat} {block : Int} {sv v v' : Value} {done : List (ByteArray × AFile)} {f : ByteArray × AFile} {rv : Value} {rs : List Value}
    (h : CoIn w wr B block sv done f.1 f.2.done f.2.blocks) (hof : FsAt wr (fun b => w.heap.size ≤ b) rv f.2.blocks)
    (hv : Blk wr (w.heap.size + 2) 28 #[.int .i64 block, v]) (hrl : rs.length = done.length) (ho : wr.ownsRow (w.heap.size + 3) 55 3 v done.length (fileCells done rs))
    (hve : ∀ (j : Nat) (r : Value) (f : ByteArray × AFile), rs[j]? = some r → done[j]? = some f → FsAt wr (fun b => w.heap.size ≤ b) r f.2.blocks) (ka : Keep Nil wr w2)
    (ho1 : w3.ownsRow (w.heap.size + 3) 55 3 v' (done.length + 1) (fileCells done rs ++ [.string f.1, .bool f.2.done, rv])) (k1 : Keep (fun b => v.ownBlock = some b) w2 w3) (hv1 : v'.ownBlock = v.ownBlock ∨ v'.ownBlock = some w2.heap.size) :
    WoInv w (w3.setCell ⟨w.heap.size + 2, 1, none⟩ v') (w.heap.size + 3) (fun _ => False) block sv (done ++ [f]) := by
  have hw : WoInv w wr (w.heap.size + 3) (fun _ => False) block sv done := ⟨h.keep, h.st, h.res, v, hv, ⟨rs, hrl, ho, fun j r f hr hf => (hve j r f hr hf).mono (fun b hb _ => .inr hb)⟩⟩
  exact WoInv.push (by omega) hw hv hrl ho (fun j r f hr hf => (hve j r f hr hf).mono (fun b hb _ => .inr hb)) (hof.mono (fun b hb _ => .inr hb)) ka ho1 k1 hv1

/-- What stands of Copy. -/
def CopyPost (w : World) (block : Int) (fs : List (ByteArray × AFile)) (e : Ending) (w' : World) : Prop :=
  ∃ v, e = .returned v ∧ StAt w' (fun b => w.heap.size ≤ b) v block fs ∧ Keep Nil w w'

set_option maxRecDepth 100000 in
set_option maxHeartbeats 4000000 in
theorem copy_any (H : Nat → Prop) (v : Value) (block : Int) (fs : List (ByteArray × AFile)) (w : World) (hs : StAt w H v block fs) (h8 : Bytes fs) (hl : Few fs) :
    Calls Tryz.prog 58 #[v] w (CopyPost w block fs) := by
  obtain ⟨u, rfl, hf⟩ := hs.out
  obtain ⟨A, c, rfl⟩ := hf.form
  have HFL := Hid.intro_ hf
  have H8 := Hid.intro_ h8
  have HL := Hid.intro_ hl
  have hln := hl.1
  have hI0 : Hid (WoInv w (((w.alloc (.cells #[.int .i64 block, .slice A fs.length c] 28)).alloc (.cells #[.int .i64 0, .slice none 0 0] 28)).alloc (.cells #[.int .i64 block, .slice none 0 0] 28)) (w.heap.size + 3) (fun _ => False) block (.slice A fs.length c) (fs.take 0)) :=
    ⟨(((Keep.refl Nil w).alloc _).alloc _).alloc _, ((Blk.new w _ _).alloc _).alloc _, (Blk.new_at _ _ _ (by simp)).alloc _, _, Blk.new_at _ _ _ (by simp), OFl.nil_ _ _ _⟩
  clear hs hf h8 hl
  go_enter Tryz.func58, Tryz.ntmps58
  go_wp2
  go_loopw [4] (fun j wr => ∃ k : Nat, k ≤ fs.length ∧ j = .int .i64 k ∧ Hid (WoInv w wr (w.heap.size + 3) (fun _ => False) block (.slice A fs.length c) (fs.take k))) (fun j _ => fs.length - (intOf j).toNat)
  case atStart => exact ⟨0, Nat.zero_le _, rfl, hI0⟩
  case round =>
    obtain ⟨k, hk, rfl, HI⟩ := hrel
    obtain ⟨kk, b1, b0, vo, b2, hofl⟩ := HI.out
    have x0 : wr.cell? ⟨w.heap.size, 0, none⟩ = some (.int .i64 block) := b1.at_ 0
    have x1 : wr.cell? ⟨w.heap.size, 1, none⟩ = some (.slice A fs.length c) := b1.at_ 1
    by_cases hlt : k < fs.length
    · obtain ⟨f, hf'⟩ : ∃ f', fs[k]? = some f' := ⟨_, List.getElem?_eq_getElem hlt⟩
      obtain ⟨g, o, Ar, cr, rfl, p0, p1, p2, hfs⟩ := (HFL.out.nil kk).get hf'
      have lg := cell_lt p0
      have hk0 : 0 ≤ (k : Int) := by omega
      have hk1 : (k : Int) < (fs.length : Int) := by omega
      have hin : Hid (CoIn w (wr.drew.alloc (.cells #[.string f.1, .bool f.2.done, .slice none 0 0] 55)) wr.heap.size block (.slice (some ⟨g, o, none⟩) fs.length c) (fs.take k) f.1 f.2.done (f.2.blocks.take 0)) := by
        have ka := (Keep.refl Nil wr).drew.alloc (.cells #[.string f.1, .bool f.2.done, .slice none 0 0] 55)
        refine ⟨kk.then_ ka, b1.keep ka (fun h => h), b0.keep ka (fun h => h), ⟨vo, b2.keep ka (fun h => h), (hofl.mono (fun b hb hlt => ⟨hb.elim (fun h => h.elim) id, hlt⟩)).nil ka, fun g hg => ?_⟩, ⟨_, Blk.new wr.drew _ _, OFs.nil_ _ _ _⟩, b2.lt⟩
        obtain ⟨_, _, ho, _⟩ := hofl.out
        obtain ⟨cur, hc⟩ := own_blk ho hg
        exact lt_of_heap hc
      have KK := Hid.intro_ kk
      have HFS := Hid.intro_ hfs
      have HF := Hid.intro_ hf'
      have P0 := Hid.intro_ p0
      have P1 := Hid.intro_ p1
      have P2 := Hid.intro_ p2
      have HLF := HL.out.2 f (List.mem_of_getElem? hf')
      clear hf' hfs hofl b0 b1 b2 kk
      obtain ⟨wo, rfl⟩ : ∃ x : World, x = wr := ⟨_, rfl⟩
      go_wp2_with fail
      go_region_held3 (fun w' => w'.cell? ⟨w.heap.size, 1, none⟩ = some (.slice (some ⟨g, o, none⟩) fs.length c) ∧ w'.cell? ⟨g, o + k * 3, none⟩ = some (.string f.1) ∧ w'.cell? ⟨g, o + k * 3 + 1, none⟩ = some (.bool f.2.done))
        (first | exact ⟨x1, p0, p1⟩ | go_keep)
        ((first | fail))
      go_wp2_with fail
      go_loopw [6] (fun j wi => ∃ m : Nat, m ≤ f.2.blocks.length ∧ j = .int .i64 m ∧ Hid (CoIn w wi wo.heap.size block (.slice (some ⟨g, o, none⟩) fs.length c) (fs.take k) f.1 f.2.done (f.2.blocks.take m))) (fun j _ => f.2.blocks.length - (intOf j).toNat)
      case atStart => exact ⟨0, Nat.zero_le _, rfl, hin⟩
      case round =>
        obtain ⟨m, hm, rfl, HIN⟩ := hrel
        have kx := HIN.out.keep
        have x1 : wr.cell? ⟨w.heap.size, 1, none⟩ = some (.slice (some ⟨g, o, none⟩) fs.length c) := HIN.out.st.at_ 1
        obtain ⟨g2, o2, Ar2, cr2, e2, q0, q1, q2, hfs2⟩ := (HFL.out.nil kx).get HF.out
        injection e2 with e2
        injection e2 with e2 e3
        subst e2 e3
        by_cases hmt : m < f.2.blocks.length
        · obtain ⟨bs, hbs⟩ : ∃ bs, f.2.blocks[m]? = some bs := ⟨_, List.getElem?_eq_getElem hmt⟩
          obtain ⟨A5, c5, vs, e5, hvl, hvr, hvi, hvt, hvb⟩ := hfs2.out
          injection e5 with e6 e7 e8
          subst e6 e8
          obtain ⟨u, hu⟩ : ∃ u, vs[m]? = some u := ⟨_, List.getElem?_eq_getElem (by omega)⟩
          have hbu := hvb m u bs hu hbs
          obtain ⟨⟨ga2, oa2, sa2⟩, rfl, p4⟩ := hvr m u hu
          obtain rfl : sa2 = none := (hvi _ rfl).3
          rw [add_at] at p4
          have h8b := H8.out f (List.mem_of_getElem? HF.out) bs (List.mem_of_getElem? hbs)
          have cv1 : (convert 161 9 u).run Tryz.prog wr.drew = .ok (.string ⟨(toB bs).toArray⟩) wr.drew := conv_any hbu h8b 1
          have hsz : (⟨(toB bs).toArray⟩ : ByteArray).size = bs.length := by
            show (toB bs).toArray.size = _
            simp [toB_len]
          have cv2 : ∀ w : World, (convert 9 161 (.string ⟨(toB bs).toArray⟩)).run Tryz.prog w = .ok (.slice (some ⟨w.heap.size, 0, none⟩) bs.length (grownCap w bs.length 0 5))
              (w.drew.alloc (.cells (bytesRow ⟨(toB bs).toArray⟩ (grownCap w bs.length 0 5)) 5 ((bytesRow ⟨(toB bs).toArray⟩ (grownCap w bs.length 0 5)).size, (bytesRow ⟨(toB bs).toArray⟩ (grownCap w bs.length 0 5)).size + 1))) := fun w => by
            have := run_bytes_of_string (P := Tryz.prog) w 9 161 5 ⟨(toB bs).toArray⟩ Tryz.underlying9 Tryz.underlying161 Tryz.underlying5
            rw [hsz] at this
            exact this
          obtain ⟨v, hv, hof⟩ := HIN.out.file
          obtain ⟨vs0, ho0, hv0⟩ := hof.out
          have hml : (f.2.blocks.take m).length = m := by rw [List.length_take]; omega
          rw [hml] at ho0
          have hvo : v.oneCell' = true := by rcases ho0.2 with ⟨e, _⟩ | ⟨_, _, _, e, _⟩ <;> rw [e] <;> rfl
          have cv : wr.cell? ⟨wo.heap.size, 2, none⟩ = some v := hv.at_ 2
          have hvl0 : vs0.length = m := by simpa using ho0.1
          have nvg : ¬ v.ownBlock = some wo.heap.size := fun e => by
            obtain ⟨cur, hc⟩ := own_blk ho0 e
            exact Blk.ne_ hv hc (by decide) rfl
          have HO := Hid.intro_ ho0
          have HV0 := Hid.intro_ hv0
          have HVV := Hid.intro_ hv
          have HBS := Hid.intro_ hbs
          have H8B := Hid.intro_ h8b
          have hml2 := Hid.intro_ hml
          have hk0 : 0 ≤ (k : Int) := by omega
          have hk1 : (k : Int) < (fs.length : Int) := by omega
          have hm0 : 0 ≤ (m : Int) := by omega
          have hm1 : (m : Int) < (f.2.blocks.length : Int) := by omega
          have hm40 : m ≤ 1099511627776 := by omega
          have lB := hv.lt
          obtain ⟨i1, hi1, hy0, hy1, hy2⟩ := info_parts info_bytes
          clear ho0 hv0 hml hof hbs hu hbu hfs2 hvl hvr hvi hvt hvb h8b hv
          go_wp2_with fail
          go_region_law (refine step_append_own rfl (.tmp 42) (.tmp 54) 53 rfl wo.heap.size 161 i1 (.slice none 0 0) 1 24 Tryz.underlying53 hi1 hy0 hy1 hy2 rfl (by decide) v m vs0 (by simp [Act.eval]) (own_keep HO.out (((Keep.refl Nil wr).drew.drew.alloc _).alloc _) (fun g _ h => h)) ⟨wr.heap.size + 1, 0, none⟩ 1 1 [.slice (some ⟨wr.heap.size, 0, none⟩) bs.length (grownCap wr.drew bs.length 0 5)] (by simp [Act.eval]) rfl (news_new (by simp)) (by simp [Value.oneCell']) (by unfold maxLen; omega) (by omega) (by simp at *; omega) ?_; intro av cv3 w3 ho3 k3 hv3
                         have b3 := (((HVV.out.drew.drew).alloc (.cells (bytesRow ⟨(toB bs).toArray⟩ (grownCap wr.drew bs.length 0 5)) 5 ((bytesRow ⟨(toB bs).toArray⟩ (grownCap wr.drew bs.length 0 5)).size, (bytesRow ⟨(toB bs).toArray⟩ (grownCap wr.drew bs.length 0 5)).size + 1))).alloc (.cells #[.slice (some ⟨wr.heap.size, 0, none⟩) bs.length (grownCap wr.drew bs.length 0 5)] 161)).keep k3 nvg
                         have x3 : w3.cell? ⟨wo.heap.size, 2, none⟩ = some v := b3.at_ 2
                         have y3 := b3.fr 2)
          all_goals
            have hfin : Hid (CoIn w (w3.setCell ⟨wo.heap.size, 2, none⟩ (.slice av (m + 1) cv3)) wo.heap.size block (.slice (some ⟨g, o, none⟩) fs.length c) (fs.take k) f.1 f.2.done (f.2.blocks.take (m + 1))) := by
              have htk : f.2.blocks.take (m + 1) = f.2.blocks.take m ++ [bs] := by rw [List.take_add_one, HBS.out]; rfl
              rw [htk]
              exact CoIn.push HIN.out HVV.out (by rw [hml2.out]; exact HO.out) HV0.out (((Keep.refl Nil wr).drew.drew.alloc _).alloc _) (((bytes_new wr.drew.drew bs H8B.out _ (grownCap_ge _ _ _ _) _).nil ((Keep.refl Nil _).alloc _)).mono (fun b hb _ => Nat.le_of_eq hb.symm)) (by rw [hml2.out]; exact ho3.out) k3 (by simpa using hv3.out)
            go_wp2
            go_roundw
            case rel => exact ⟨m + 1, by omega, by go_num, hfin⟩
            case measure => simp [intOf]; omega
        · obtain rfl : m = f.2.blocks.length := by omega
          obtain ⟨v, hv, hof⟩ := HIN.out.file
          obtain ⟨vo2, hvo2, hofl2, hlt2⟩ := HIN.out.out
          obtain ⟨rs, hrl, ho0, hve⟩ := hofl2.out
          have z0 : wr.cell? ⟨wo.heap.size, 0, none⟩ = some (.string f.1) := hv.at_ 0
          have z1 : wr.cell? ⟨wo.heap.size, 1, none⟩ = some (.bool f.2.done) := hv.at_ 1
          have z2 : wr.cell? ⟨wo.heap.size, 2, none⟩ = some v := hv.at_ 2
          have y0 : wr.cell? ⟨w.heap.size + 2, 0, none⟩ = some (.int .i64 block) := hvo2.at_ 0
          have y1 : wr.cell? ⟨w.heap.size + 2, 1, none⟩ = some vo2 := hvo2.at_ 1
          have hvo : vo2.oneCell' = true := by rcases ho0.2 with ⟨e, _⟩ | ⟨_, _, _, e, _⟩ <;> rw [e] <;> rfl
          have hvv : v.oneCell' = true := by
            obtain ⟨vs9, h9, _⟩ := hof.out
            rcases h9.2 with ⟨e, _⟩ | ⟨_, _, _, e, _⟩ <;> rw [e] <;> rfl
          have n2 : ¬ vo2.ownBlock = some (w.heap.size + 2) := fun e => by
            obtain ⟨cur, hc⟩ := own_blk ho0 e
            exact Blk.ne_ hvo2 hc (by decide) rfl
          obtain ⟨i2, hi2, hz0, hz1, hz2⟩ := info_parts info_file
          have hkl : (fs.take k).length = k := by rw [List.length_take]; omega
          rw [hkl] at ho0
          have l2 := hvo2.lt
          have HO := Hid.intro_ ho0
          have HVE := Hid.intro_ hve
          have HVO := Hid.intro_ hvo2
          have HKL := Hid.intro_ hkl
          have HV := Hid.intro_ hv
          have HOF := Hid.intro_ hof
          have hk40 : k ≤ 1099511627776 := by omega
          clear hofl2 hof hve ho0 hkl hv hvo2
          go_wp2_with (at_builtin; refine wpList_append_own_at _ rfl (.tmp 58) (.tmp 60) 26 rfl (w.heap.size + 3) 55 i2 (.agg #[.string ⟨#[]⟩, .bool false, .slice none 0 0]) 3 48 Tryz.underlying26 hi2 hz0 hz1 hz2 rfl (by decide) vo2 k (fileCells (fs.take k) rs) (by simp [Act.eval]) (own_keep HO.out ((Keep.refl Nil wr).alloc _) (fun g _ h => h)) ⟨wr.heap.size, 0, none⟩ 1 1 [.string f.1, .bool f.2.done, v] (by simp [Act.eval]) rfl (news_new rfl) (fun x hx => by simp only [List.mem_cons, List.not_mem_nil, or_false] at hx; rcases hx with rfl | rfl | rfl <;> first | rfl | exact hvv) (by unfold maxLen; omega) (by omega) (by simp at *; omega) ?_; intro s1 w3 ho3 k3 _ hs1
                       obtain ⟨av, cv3, rfl⟩ := own_form ho3
                       have b3 := (HVO.out.alloc (.cells #[.string f.1, .bool f.2.done, v] 55)).keep (Keep.of_grown k3) n2
                       have x3 : w3.cell? ⟨w.heap.size + 2, 1, none⟩ = some vo2 := b3.at_ 1
                       have y3 := b3.fr 1)
          have hfin : Hid (WoInv w (w3.setCell ⟨w.heap.size + 2, 1, none⟩ (.slice av (k + 1) cv3)) (w.heap.size + 3) (fun _ => False) block (.slice (some ⟨g, o, none⟩) fs.length c) (fs.take (k + 1))) := by
            have htk : fs.take (k + 1) = fs.take k ++ [f] := by rw [List.take_add_one, HF.out]; rfl
            have hI := HIN.out
            rw [List.take_length] at hI
            have hofs := HOF.out
            rw [List.take_length] at hofs
            rw [htk]
            refine CoIn.done hI (hofs.fs (fun g' hg' => by obtain ⟨_, ho9, _⟩ := hofs.out; exact own_base ho9 hg') |>.mono (fun b hb _ => ?_)) HVO.out hrl (by rw [HKL.out]; exact HO.out) (fun j r f hr hf => (HVE.out j r f hr hf).mono (fun b hb _ => hb.1)) ((Keep.refl Nil wr).alloc _) (by rw [HKL.out]; exact ho3) (Keep.of_grown k3) hs1
            have := hI.lt
            omega
          go_wp2
          go_roundw
          case rel => exact ⟨k + 1, by omega, by go_num, hfin⟩
          case measure => simp [intOf]; omega
    · obtain rfl : k = fs.length := by omega
      obtain ⟨rs, hrl, ho0, hve⟩ := hofl.out
      have hln2 : (fs.take fs.length).length = fs.length := by simp
      obtain ⟨Av, cv, rfl⟩ := own_form ho0
      rw [hln2] at ho0
      have y0 : wr.cell? ⟨w.heap.size + 2, 0, none⟩ = some (.int .i64 block) := b2.at_ 0
      have y1 : wr.cell? ⟨w.heap.size + 2, 1, none⟩ = some (.slice Av fs.length cv) := by rw [← hln2]; exact b2.at_ 1
      have z0 : wr.cell? ⟨w.heap.size + 1, 0, none⟩ = some (.int .i64 0) := b0.at_ 0
      have z1 : wr.cell? ⟨w.heap.size + 1, 1, none⟩ = some (.slice none 0 0) := b0.at_ 1
      have f0 := b0.fr 0
      have f1 := b0.fr 1
      have hfl : Hid (FlAt wr (fun b => w.heap.size ≤ b) (.slice Av fs.length cv) fs) := by
        rw [List.take_length] at hofl
        have h9 := (hofl.mono (H' := fun b => w.heap.size ≤ b) (fun b hb _ => hb.elim (fun h => h.elim) id))
        exact h9.fl (fun g hg => by obtain ⟨_, _, ho, _⟩ := h9.out; have := own_base ho hg; omega)
      have B0 := Hid.intro_ b0
      have KK := Hid.intro_ kk
      clear b0 b1 b2 ho0 hrl hofl hve
      go_wp2
      refine bodyPost_ret (v := .agg #[.int .i64 block, .slice Av fs.length cv]) (by simp [results, Tryz.results58, go_sem, z0, z1]) rfl ?_
      have ks := ((Keep.refl (fun b => b = w.heap.size + 1) wr).setCell (p := ⟨w.heap.size + 1, 0, none⟩) (fun _ => rfl) (.int .i64 block)).setCell (p := ⟨w.heap.size + 1, 1, none⟩) (fun _ => rfl) (.slice Av fs.length cv)
      refine ⟨_, rfl, ⟨_, rfl, hfl.out.far (g := w.heap.size + 1) ks (fun cs t fr hc => ?_)⟩, KK.out.trans ks (fun b hb e => by have : b = w.heap.size + 1 := e; omega)⟩
      have hb := B0.out
      unfold Blk at hb
      rw [hc] at hb
      injection hb with hb
      injection hb with _ hb
      subst hb
      exact ⟨by decide, by decide, by decide⟩
end Go.Proofs.YtadipinnbehhhaaGreatDoor
namespace Go.Proofs.YtadipinnbehhhaaGreatDoor
open Go.RowKit

/-- How many blocks hold n records, F in each. -/
def nblk (F n : Nat) : Nat := (n + F - 1) / F
/-- Records number k·F on, F of them. -/
def chunk (F k : Nat) (l : List R4) : List R4 := (l.drop (k * F)).take F
/-- Records as blocks. -/
def blocksB (kind : Nat) (l : List R4) (block : Nat) : List (List Int) := (List.range (nblk (block / 32 - 1) l.length)).map fun k => encB kind k (chunk (block / 32 - 1) k l) block

theorem nblk_lt {F n k : Nat} (hF : 0 < F) : k < nblk F n ↔ k * F < n := by
  unfold nblk
  rw [Nat.lt_iff_add_one_le, Nat.le_div_iff_mul_le hF, Nat.add_mul]
  omega
theorem chunk_len (F k : Nat) (l : List R4) : (chunk F k l).length = min F (l.length - k * F) := by simp [chunk]
theorem rcCells_app' (a b : List R4) : rcCells (a ++ b) = rcCells a ++ rcCells b := by simp [rcCells]
theorem rcCells_len' : ∀ l : List R4, (rcCells l).length = l.length * 4
  | [] => rfl
  | r :: l => by
    have e : rcCells (r :: l) = (r.ws.map fun (x : Nat) => Value.int .u64 x) ++ rcCells l := rfl
    rw [e, List.length_append, rcCells_len' l]
    simp [R4.ws]; omega
theorem chunk_cells (F k : Nat) (l : List R4) (j : Nat) (u : Value) (hk : k * F ≤ l.length) (h : (rcCells (chunk F k l))[j]? = some u) : (rcCells l)[k * F * 4 + j]? = some u := by
  have e : l = l.take (k * F) ++ (chunk F k l ++ (l.drop (k * F)).drop F) := by unfold chunk; rw [List.take_append_drop, List.take_append_drop]
  have hl : (rcCells (l.take (k * F))).length = k * F * 4 := by rw [rcCells_len', List.length_take, Nat.min_eq_left hk]
  rw [e, rcCells_app', List.getElem?_append_right (by rw [hl]; omega), hl, Nat.add_sub_cancel_left, rcCells_app', List.getElem?_append_left (List.getElem?_eq_some_iff.1 h).1]
  exact h

/-- What stands of Blocks. -/
def BlocksPost (w : World) (f : List (List Int)) (e : Ending) (w' : World) : Prop :=
  ∃ v, e = .returned v ∧ FsAt w' (fun b => w.heap.size ≤ b) v f ∧ Keep Nil w w'

/-- A row of one's own of slices: one more behind a quiet piece. -/
theorem OFs.step {w wr w2 w3 : World} {v v' u : Value} {f : List (List Int)} {bs : List Int} {vs : List Value} (hv : ∀ (j : Nat) (u : Value) (bs : List Int), vs[j]? = some u → f[j]? = some bs → BsAt wr (fun b => w.heap.size ≤ b) u bs)
    (ho : wr.ownsRow w.heap.size 161 1 v f.length vs) (kk : Keep Nil wr w2) (hb : BsAt w2 (fun b => w.heap.size ≤ b) u bs) (ho3 : w3.ownsRow w.heap.size 161 1 v' (f.length + 1) (vs ++ [u])) (k3 : Keep (fun b => v.ownBlock = some b) w2 w3) :
    OFs w3 w.heap.size (fun b => w.heap.size ≤ b) v' (f ++ [bs]) := by
  refine OFs.push (w1 := w2) (vs := vs) (v := v) (fun j u bs hu hb => (hv j u bs hu hb).nil kk) (by simpa using ho.1) hb ho3 k3 (fun x hx cs fr hc => ?_)
  obtain ⟨cur, hc2⟩ := own_blk ho hx
  have h1 := hc2.keep kk (fun h => h)
  unfold Blk at h1
  rw [hc] at h1
  injection h1 with h1
  injection h1 with _ h1
  exact absurd h1 (by decide)

set_option maxRecDepth 100000 in
set_option maxHeartbeats 2000000 in
theorem blocks_any (kind block : Nat) (A : Option Addr) (lc : Nat) (l : List R4) (w : World) (hk : 1 ≤ kind ∧ kind ≤ 255) (hb : 64 ≤ block ∧ block ≤ 65536 ∧ block % 32 = 0) (hl : l.length ≤ lc ∧ l.length ≤ 1099511627776)
    (hc : Rd w A (rcCells l)) (hA : ∀ a, A = some a → a.spot = none) (hr : ∀ r ∈ l, r.Ok) :
    Calls Tryz.prog 76 #[.int .i64 kind, .slice A l.length lc, .int .i64 block] w (BlocksPost w (blocksB kind l block)) := by
  have HC := Hid.intro_ hc
  have HR := Hid.intro_ hr
  have HA := Hid.intro_ hA
  have HB := Hid.intro_ hb
  obtain ⟨F, hF⟩ : ∃ F, F = block / 32 - 1 := ⟨_, rfl⟩
  have hF1 : 1 ≤ F ∧ F ≤ 2047 := by omega
  have hfit : fit block = (F : Int) := by
    unfold fit
    rw [if_neg (by omega)]; omega
  have hft := fun w => rfit_any block w
  rw [hfit] at hft
  have hbl : Hid (blocksB kind l block = (List.range (nblk F l.length)).map fun k => encB kind k (chunk F k l) block) := by unfold blocksB; rw [← hF]; exact Hid.intro_ rfl
  have HF := Hid.intro_ hF
  have hFi : (0 : Int) < (F : Int) := by omega
  clear hc hr hA hfit hF hb
  go_enter Tryz.func76, Tryz.ntmps76
  go_wp2_with (go_at_call 10; refine (hft _).mono ?_; rintro e w2 ⟨rfl, hw2⟩; obtain rfl := hw2.symm)
  go_loopw [8, 9] (fun q j wr => ∃ (k : Nat) (v : Value), k ≤ nblk F l.length ∧ v = q ∧ j = .int .i64 ((k * F : Nat) : Int) ∧ Hid (OFs wr w.heap.size (fun b => w.heap.size ≤ b) v ((blocksB kind l block).take k)) ∧ Keep Nil w wr) (fun _ j _ => l.length + F - (intOf j).toNat)
  case atStart => exact ⟨0, _, Nat.zero_le _, rfl, by simp, OFs.nil_ _ _ _, Keep.refl _ _⟩
  case round =>
    obtain ⟨k, v, hk2, rfl, rfl, HO, kwr⟩ := hrel
    by_cases hlt : k < nblk F l.length
    · have hlt2 := (nblk_lt hF1.1).1 hlt
      obtain ⟨K, hK⟩ : ∃ K, K = k * F := ⟨_, rfl⟩
      rw [← hK] at hlt2 ⊢
      have HK := Hid.intro_ hK
      obtain ⟨⟨g, o, sp⟩, rfl⟩ : ∃ a, A = some a := by
        cases A with
        | some a => exact ⟨a, rfl⟩
        | none =>
          obtain ⟨_, e, _⟩ := HC.out 0 ((rcCells l)[0]'(by rw [rcCells_len]; omega)) (List.getElem?_eq_getElem _)
          cases e
      obtain rfl : sp = none := HA.out _ rfl
      have hkK : k ≤ K := by rw [hK]; exact Nat.le_mul_of_pos_right _ hF1.1
      have hcl : (chunk F k l).length = min F (l.length - K) := by rw [chunk_len, ← hK]
      obtain ⟨n, hn⟩ : ∃ n, n = (chunk F k l).length := ⟨_, rfl⟩
      have hn1 : 1 ≤ n ∧ 32 * n + 32 ≤ block := by have := HB.out; have := HF.out; omega
      have hKn : K + n ≤ l.length := by omega
      have hcall : ∀ (wx : World) (lc' : Nat), Keep Nil wr wx → Calls Tryz.prog 152 #[.int .i64 kind, .int .i64 k, .slice (some ⟨g, o + K * 4, none⟩) n lc', .int .i64 block] wx fun e w' =>
          ∃ s, e = .returned (.tuple #[s, .int .i64 0]) ∧ w'.ownsRow wx.heap.size 5 1 s block (by8 (encB kind k (chunk F k l) block)) ∧ Keep Nil wx w' := fun wx lc' hwx => by
        rw [hn]
        refine rencode_good kind k block g (o + K * 4) lc' (chunk F k l) wx hk (by omega) HB.out (by omega) (by omega) (fun j u hu => ?_) (fun r hr => HR.out r (List.mem_of_mem_drop (List.mem_of_mem_take hr)))
        obtain ⟨ad, e, hcc⟩ := HC.out _ _ (chunk_cells F k l j u (by omega) hu)
        injection e with e
        subst e
        rw [add_at, ← hK, ← Nat.add_assoc] at hcc
        exact cell_keep hcc (kwr.then_ hwx) (fun h => h)
      have HCALL := Hid.intro_ hcall
      have hmn : Hid ((min ((K : Int) + (F : Int)) (l.length : Int)).toNat - K = n) := Hid.intro_ (by omega)
      obtain ⟨vs0, ho0, hv0⟩ := HO.out.out
      have hlk : ((blocksB kind l block).take k).length = k := by rw [List.length_take, hbl.out]; simp; omega
      rw [hlk] at ho0
      obtain ⟨Av, cv, rfl⟩ := own_form ho0
      have HV0 := Hid.intro_ hv0
      have HOO := Hid.intro_ ho0
      have HLK := Hid.intro_ hlk
      have HNN := Hid.intro_ hn
      clear hK hcall hv0 ho0 hlk hcl hn
      obtain ⟨i1, hi1, hy0, hy1, hy2⟩ := info_parts info_bytes
      have hk40 : k ≤ 1099511627776 := by omega
      have lw := kwr.size
      go_wp2_with (first
        | (go_at_call 152; rw [hmn.out]; refine (HCALL.out _ _ (Keep.refl _ _)).mono ?_; rintro e w2 ⟨s, rfl, hs2, k2⟩
           obtain ⟨As, cs, rfl⟩ := own_form hs2
           have lw2 := k2.size)
        | (at_builtin; go_loud (refine wpList_append_own_at _ rfl (.tmp 42) (.tmp 44) 53 rfl w.heap.size 161 i1 (.slice none 0 0) 1 24 Tryz.underlying53 hi1 hy0 hy1 hy2 rfl (by decide) (.slice Av k cv) k vs0 (by simp [Act.eval]) (own_keep HOO.out (k2.alloc _) (fun g _ h => h)) ⟨w2.heap.size, 0, none⟩ 1 1 [.slice As block cs] (by simp [Act.eval]) rfl (one_new _ _ _) (by simp [Value.oneCell']) (by unfold maxLen; omega) (by omega) (by simp at *; omega) ?_; intro v3 w3 ho3 k3 _ hv3)))
      have hfin : Hid (OFs w3 w.heap.size (fun b => w.heap.size ≤ b) v3 ((blocksB kind l block).take (k + 1))) := by
        have htk : (blocksB kind l block).take (k + 1) = (blocksB kind l block).take k ++ [encB kind k (chunk F k l) block] := by
          rw [List.take_add_one, hbl.out]
          congr 1
          rw [List.getElem?_map, List.getElem?_range hlt]
          rfl
        rw [htk]
        have hbs : BsAt w2 (fun b => w.heap.size ≤ b) (.slice As block cs) (encB kind k (chunk F k l) block) := BsAt.of_own hs2 (encB_len (by rw [← HNN.out]; exact hn1.2)) (fun g hg => by have := own_base hs2 hg; omega)
        exact OFs.step HV0.out (by rw [HLK.out]; exact HOO.out) (k2.alloc _) (hbs.nil ((Keep.refl Nil w2).alloc _)) (by rw [HLK.out]; exact ho3) (Keep.of_grown k3)
      have kfin : Hid (Keep Nil w w3) := by
        have := (kwr.then_ k2).alloc (.cells #[.slice As block cs] 161)
        exact this.trans (Keep.of_grown k3) (fun b hb e => by have := own_base HOO.out e; omega)
      have hnx : Hid (((k + 1) * F : Nat) = K + F) := by rw [Nat.add_mul, ← HK.out, Nat.one_mul]; exact Hid.intro_ rfl
      go_wp2
      go_roundw
      case rel => exact ⟨k + 1, _, by omega, rfl, by rw [hnx.out]; go_num, hfin, kfin.out⟩
      case measure => simp [intOf]; omega
    · obtain rfl : k = nblk F l.length := by omega
      have hge : ¬ (nblk F l.length * F < l.length) := fun h => by have := (nblk_lt hF1.1).2 h; omega
      obtain ⟨K, hK⟩ : ∃ K, K = nblk F l.length * F := ⟨_, rfl⟩
      rw [← hK] at hge ⊢
      have hfin : Hid (FsAt wr (fun b => w.heap.size ≤ b) v (blocksB kind l block)) := by
        have h := HO.out
        rw [show (blocksB kind l block).take (nblk F l.length) = blocksB kind l block by rw [List.take_of_length_le]; rw [hbl.out]; simp] at h
        exact h.fs (fun g hg => by obtain ⟨_, ho, _⟩ := h.out; exact own_base ho hg)
      clear hK
      go_wp2
      go_ret
      exact ⟨_, rfl, hfin.out, kwr⟩

set_option maxRecDepth 100000 in
set_option maxHeartbeats 2000000 in
/-- Records as a closed file. -/
theorem tape_any (s : ByteArray) (kind block : Nat) (A : Option Addr) (lc : Nat) (l : List R4) (w : World) (hk : 1 ≤ kind ∧ kind ≤ 255) (hb : 64 ≤ block ∧ block ≤ 65536 ∧ block % 32 = 0) (hl : l.length ≤ lc ∧ l.length ≤ 1099511627776)
    (hc : Rd w A (rcCells l)) (hA : ∀ a, A = some a → a.spot = none) (hr : ∀ r ∈ l, r.Ok) :
    Calls Tryz.prog 22 #[.string s, .int .i64 kind, .slice A l.length lc, .int .i64 block] w fun e w' => ∃ v, e = .returned (.agg #[.string s, .bool true, v]) ∧ FsAt w' (fun b => w.heap.size ≤ b) v (blocksB kind l block) ∧ Keep Nil w w' := by
  have HB := Hid.intro_ (blocks_any kind block A lc l (w.alloc (.cells #[.string ⟨#[]⟩, .bool false, .slice none 0 0] 55)) hk hb hl (hc.keep ((Keep.refl Nil w).alloc _) (fun _ _ _ h => h)) hA hr)
  clear hc hA hr
  go_enter Tryz.func22, Tryz.ntmps22
  have b0 := Blk.new w 55 #[.string ⟨#[]⟩, .bool false, .slice none 0 0]
  go_wp2_with (go_at_call 76; refine HB.out.mono ?_; rintro e w2 ⟨v, rfl, hfs, k2⟩
               have b2 := b0.keep k2 (fun h => h)
               have z0 : w2.cell? ⟨w.heap.size, 0, none⟩ = some (.string ⟨#[]⟩) := b2.at_ 0
               have z1 : w2.cell? ⟨w.heap.size, 1, none⟩ = some (.bool false) := b2.at_ 1
               have z2 : w2.cell? ⟨w.heap.size, 2, none⟩ = some (.slice none 0 0) := b2.at_ 2
               have f0 := b2.fr 0
               have f1 := b2.fr 1
               have f2 := b2.fr 2
               obtain ⟨Av, cv, vs, rfl, hfs2⟩ := hfs.out
               have HFS := Hid.intro_ hfs
               clear hfs hfs2)
  refine bodyPost_ret (v := .agg #[.string s, .bool true, .slice Av (blocksB kind l block).length cv]) (by simp [results, Tryz.results22, go_sem, z0, z1, z2]) rfl ?_
  have ks := (((Keep.refl (fun b => b = w.heap.size) w2).setCell (p := ⟨w.heap.size, 0, none⟩) (fun _ => rfl) (.string s)).setCell (p := ⟨w.heap.size, 1, none⟩) (fun _ => rfl) (.bool true)).setCell (p := ⟨w.heap.size, 2, none⟩) (fun _ => rfl) (.slice Av (blocksB kind l block).length cv)
  have hty : ∀ cs t fr, w2.heap[w.heap.size]? = some (.cells cs t fr) → t = 55 := fun cs t fr hc => by
    have hb := b2
    unfold Blk at hb
    rw [hc] at hb
    injection hb with hb
    injection hb with _ hb
  refine ⟨_, rfl, ((HFS.out.mono (fun b hb _ => by simp at hb; omega)).far (g := w.heap.size) ks (fun cs fr hc => absurd (hty cs _ fr hc) (by decide)) (fun cs fr hc => absurd (hty cs _ fr hc) (by decide))), ?_⟩
  exact (((Keep.refl Nil w).alloc _).then_ k2).trans ks (fun b hb e => by have : b = w.heap.size := e; omega)
end Go.Proofs.YtadipinnbehhhaaGreatDoor
namespace Go.Proofs.YtadipinnbehhhaaGreatDoor
open Go.RowKit

theorem rec_at {w : World} {g o : Nat} {l : List R4} (h : Rd w (some ⟨g, o, none⟩) (rcCells l)) {k : Nat} {q : R4} (hk : l[k]? = some q) :
    w.cell? ⟨g, o + k * 4, none⟩ = some (.int .u64 q.a) ∧ w.cell? ⟨g, o + k * 4 + 1, none⟩ = some (.int .u64 q.b) ∧ w.cell? ⟨g, o + k * 4 + 2, none⟩ = some (.int .u64 q.c) ∧ w.cell? ⟨g, o + k * 4 + 3, none⟩ = some (.int .u64 q.d) := by
  have key : ∀ j, j < 4 → w.cell? ⟨g, o + k * 4 + j, none⟩ = some (.int .u64 ((q.ws.getD j 0 : Nat) : Int)) := fun j hj => by
    obtain ⟨ad, e, hc⟩ := h _ _ (rc_at l k j q hk hj)
    injection e with e
    subst e
    rw [add_at, ← Nat.add_assoc] at hc
    exact hc
  exact ⟨key 0 (by omega), key 1 (by omega), key 2 (by omega), key 3 (by omega)⟩

set_option maxRecDepth 100000 in
theorem eq_rec (a b c d : Int) (w : World) : (Op.equalIn 10000 111 (.agg #[.int .u64 a, .int .u64 b, .int .u64 c, .int .u64 d]) (.agg #[.int .u64 a, .int .u64 b, .int .u64 c, .int .u64 d])).run Tryz.prog w = .ok true w := by
  have u3 := Tryz.underlying43
  have a3 := Tryz.isAgg43
  have z3 := Tryz.sizeOf43
  rw [show (10000 : Nat) = 9999 + 1 from rfl, Op.equalIn]
  simp only [Sem.run_bind, run_underlying Tryz.underlying111, Result.andThen_ok]
  simp only [Std.Legacy.Range.forIn_eq_forIn_range', Std.Legacy.Range.size, Nat.sub_zero, Nat.add_sub_cancel, Nat.div_one, List.range'_succ, List.range'_zero, List.forIn_cons, List.forIn_nil]
  go_simp
theorem neq_rec (a b c d : Int) (w : World) : (binOp .neq 111 (.agg #[.int .u64 a, .int .u64 b, .int .u64 c, .int .u64 d]) (.agg #[.int .u64 a, .int .u64 b, .int .u64 c, .int .u64 d])).run Tryz.prog w = .ok (.bool false) w := by
  rw [run_neq_struct, eq_rec]
  rfl

set_option maxRecDepth 100000 in
set_option maxHeartbeats 2000000 in
theorem samerecs_true (A A' : Option Addr) (c c' : Nat) (l : List R4) (w : World) (hc : Rd w A (rcCells l)) (hc' : Rd w A' (rcCells l)) (hA : ∀ a, A = some a → a.spot = none) (hA' : ∀ a, A' = some a → a.spot = none) (hl : l.length ≤ 9223372036854775807) :
    Calls Tryz.prog 20 #[.slice A l.length c, .slice A' l.length c'] w fun e w' => e = .returned (.bool true) ∧ Keep Nil w w' := by
  have HC := Hid.intro_ hc
  have HC' := Hid.intro_ hc'
  have q3 : ((l.length : Int) != l.length) = false := by simp
  clear hc hc'
  go_enter Tryz.func20, Tryz.ntmps20
  go_wp2
  go_loopw [5] (fun i wr => ∃ k : Nat, k ≤ l.length ∧ i = .int .i64 k ∧ Keep Nil w wr) (fun i _ => l.length - (intOf i).toNat)
  case atStart => exact ⟨0, Nat.zero_le _, rfl, Keep.refl _ _⟩
  case round =>
    obtain ⟨k, hk, rfl, kwr⟩ := hrel
    by_cases hlt : k < l.length
    · obtain ⟨q, hq⟩ : ∃ q, l[k]? = some q := ⟨_, List.getElem?_eq_getElem hlt⟩
      have hne : rcCells l ≠ [] := fun e => by have := rcCells_len l; rw [e] at this; simp at this; omega
      obtain ⟨u, hu⟩ : ∃ u, (rcCells l)[0]? = some u := ⟨_, List.getElem?_eq_getElem (by rw [rcCells_len]; omega)⟩
      obtain ⟨⟨g, o, sp⟩, rfl, _⟩ := HC.out 0 u hu
      obtain ⟨⟨g', o', sp'⟩, rfl, _⟩ := HC'.out 0 u hu
      obtain rfl : sp = none := hA _ rfl
      obtain rfl : sp' = none := hA' _ rfl
      obtain ⟨p0, p1, p2, p3⟩ := rec_at (HC.out.keep kwr (fun _ _ _ h => h)) hq
      obtain ⟨p0', p1', p2', p3'⟩ := rec_at (HC'.out.keep kwr (fun _ _ _ h => h)) hq
      have hk0 : 0 ≤ (k : Int) := by omega
      have hk1 : (k : Int) < (l.length : Int) := by omega
      have eqr := fun w => neq_rec q.a q.b q.c q.d w
      clear hu hne hq
      go_wp2_with fail
      go_quiet (fail)
      go_wp2
      go_roundw
      case rel => exact ⟨k + 1, by omega, by go_num, kwr.drewN _⟩
      case measure => simp [intOf]; omega
    · obtain rfl : k = l.length := by omega
      go_wp2
      go_ret
      exact ⟨rfl, kwr⟩
end Go.Proofs.YtadipinnbehhhaaGreatDoor
namespace Go.Proofs.YtadipinnbehhhaaGreatDoor
open Go.RowKit

/-- A file set among others: what has been looked at, and whether it has its place. -/
def insStep (f : ByteArray × AFile) (r : List (ByteArray × AFile) × Bool) (g : ByteArray × AFile) : List (ByteArray × AFile) × Bool :=
  if (!r.2 && Op.bytesLess f.1.toList g.1.toList) then (r.1 ++ [f] ++ [g], true) else (r.1 ++ [g], r.2)
def insR (f : ByteArray × AFile) (l : List (ByteArray × AFile)) : List (ByteArray × AFile) × Bool := l.foldl (insStep f) ([], false)
def ins (f : ByteArray × AFile) (l : List (ByteArray × AFile)) : List (ByteArray × AFile) := if (insR f l).2 then (insR f l).1 else (insR f l).1 ++ [f]
/-- Files set in order, one by one. -/
def sortF (fs : List (ByteArray × AFile)) : List (ByteArray × AFile) := fs.foldl (fun l f => ins f l) []

theorem ins_len0 (f : ByteArray × AFile) : ∀ (l : List (ByteArray × AFile)) (r : List (ByteArray × AFile) × Bool), (l.foldl (insStep f) r).1.length + r.2.toNat = r.1.length + l.length + (l.foldl (insStep f) r).2.toNat
  | [], r => by simp
  | g :: l, (r1, r2) => by
    have ih := ins_len0 f l (insStep f (r1, r2) g)
    rw [List.foldl_cons]
    generalize hR : l.foldl (insStep f) (insStep f (r1, r2) g) = R at ih ⊢
    unfold insStep at ih
    cases r2 <;> cases hb : Op.bytesLess f.1.toList g.1.toList <;> simp [hb] at ih ⊢ <;> omega
theorem insR_len (f : ByteArray × AFile) (l : List (ByteArray × AFile)) : (insR f l).1.length = l.length + (insR f l).2.toNat := by
  have := ins_len0 f l ([], false)
  simpa [insR] using this
theorem ins_len (f : ByteArray × AFile) (l : List (ByteArray × AFile)) : (ins f l).length = l.length + 1 := by
  have := insR_len f l
  unfold ins
  split <;> simp_all
theorem insR_succ {f g : ByteArray × AFile} {l : List (ByteArray × AFile)} {m : Nat} (h : l[m]? = some g) : insR f (l.take (m + 1)) = insStep f (insR f (l.take m)) g := by
  unfold insR
  rw [List.take_add_one, h, Option.toList_some, List.foldl_append]
  rfl
theorem sortF_succ {fs : List (ByteArray × AFile)} {f : ByteArray × AFile} {k : Nat} (h : fs[k]? = some f) : sortF (fs.take (k + 1)) = ins f (sortF (fs.take k)) := by
  unfold sortF
  rw [List.take_add_one, h, Option.toList_some, List.foldl_append]
  rfl
theorem sortF_len (fs : List (ByteArray × AFile)) : (sortF fs).length = fs.length := by
  have key : ∀ (fs l : List (ByteArray × AFile)), (fs.foldl (fun l f => ins f l) l).length = l.length + fs.length := by
    intro fs
    induction fs with
    | nil => intro l; rfl
    | cons f fs ih => intro l; rw [List.foldl_cons, ih, ins_len, List.length_cons]; omega
  have := key fs []
  simpa [sortF] using this

/-- What stands of State in the midst of a file. -/
structure StIn (w wi : World) (B : Nat) (H : Nat → Prop) (q : Value) (L : List (ByteArray × AFile)) (p : Value) (R : List (ByteArray × AFile)) : Prop where mk ::
  keep : Keep Nil w wi
  res : Blk wi w.heap.size 28 #[.int .i64 0, .slice none 0 0]
  old : FlAt wi (fun b => (H b ∨ w.heap.size ≤ b) ∧ b < B) q L
  row : OFl wi B (fun b => (H b ∨ w.heap.size ≤ b) ∧ b < B) p R
  lt : w.heap.size < B ∧ B ≤ wi.heap.size

theorem StIn.push {w wi w2 w3 : World} {B : Nat} {H : Nat → Prop} {q p p' u : Value} {L R : List (ByteArray × AFile)} {f : ByteArray × AFile} {rs : List Value} (h : StIn w wi B H q L p R) (hrl : rs.length = R.length)
    (ho : wi.ownsRow B 55 3 p R.length (fileCells R rs)) (hve : ∀ (j : Nat) (r : Value) (f : ByteArray × AFile), rs[j]? = some r → R[j]? = some f → FsAt wi (fun b => (H b ∨ w.heap.size ≤ b) ∧ b < B) r f.2.blocks)
    (hu : FsAt wi (fun b => (H b ∨ w.heap.size ≤ b) ∧ b < B) u f.2.blocks) (ka : Keep Nil wi w2) (ho3 : w3.ownsRow B 55 3 p' (R.length + 1) (fileCells R rs ++ [.string f.1, .bool f.2.done, u])) (k3 : Keep (fun b => p.ownBlock = some b) w2 w3) :
    StIn w w3 B H q L p' (R ++ [f]) := by
  obtain ⟨a1, a2, a3, _, l1, l2⟩ := h
  have hpg : ∀ b, p.ownBlock = some b → B ≤ b := fun b hb => own_base ho hb
  have K : Keep (fun b => B ≤ b) wi w3 := (ka.mono (fun _ _ h => h.elim)).trans (k3.mono (fun b _ hb => hpg b hb)) (fun _ _ h => h)
  exact ⟨a1.trans K (fun b hb e => by omega), a2.keep K (by omega), a3.keep K (fun b hb _ => by omega), OFl.push (w1 := w2) (rs := rs) (v := p) (fun j r f hr hf => (hve j r f hr hf).nil ka) hrl (own_keep ho ka (fun _ _ h => h)) (hu.nil ka) ho3 k3, l1, by have := K.size; omega⟩

def StateRPost (w : World) (H : Nat → Prop) (block : Int) (fs : List (ByteArray × AFile)) (e : Ending) (w' : World) : Prop :=
  ∃ v, e = .returned v ∧ StAt w' (fun b => H b ∨ w.heap.size ≤ b) v block fs ∧ Keep Nil w w'

set_option maxRecDepth 100000 in
set_option maxHeartbeats 2000000 in
theorem rstate_any (H : Nat → Prop) (block : Int) (v : Value) (fs : List (ByteArray × AFile)) (w : World) (hf : FlAt w H v fs) (hl : fs.length ≤ 1099511627776) :
    Calls Tryz.prog 56 #[.int .i64 block, v] w (StateRPost w H block (sortF fs)) := by
  obtain ⟨A, c, rfl⟩ := hf.form
  have HFL := Hid.intro_ hf
  have b0 := Blk.new w 28 #[.int .i64 0, .slice none 0 0]
  have k0 := (Keep.refl Nil w).alloc (.cells #[.int .i64 0, .slice none 0 0] 28)
  have h0 := (OFl.nil_ (w.alloc (.cells #[.int .i64 0, .slice none 0 0] 28)) 0 (fun b => H b ∨ w.heap.size ≤ b)).fl (fun g hg => by cases hg)
  clear hf
  go_enter Tryz.func56, Tryz.ntmps56
  go_wp2
  go_loopw [5, 6] (fun s j wr => ∃ (k : Nat) (q : Value), k ≤ fs.length ∧ q = s ∧ j = .int .i64 k ∧ Keep Nil w wr ∧ Hid (Blk wr w.heap.size 28 #[.int .i64 0, .slice none 0 0]) ∧ Hid (FlAt wr (fun b => H b ∨ w.heap.size ≤ b) q (sortF (fs.take k)))) (fun _ j _ => fs.length - (intOf j).toNat)
  case atStart => exact ⟨0, _, Nat.zero_le _, rfl, rfl, k0, b0, h0⟩
  case round =>
    obtain ⟨k, q, hk, rfl, rfl, kk, HB, HQ⟩ := hrel
    by_cases hlt : k < fs.length
    · obtain ⟨f, hf'⟩ : ∃ f', fs[k]? = some f' := ⟨_, List.getElem?_eq_getElem hlt⟩
      obtain ⟨g, o, Ar, cr, rfl, p0, p1, p2, hfs⟩ := (HFL.out.nil kk).get hf'
      obtain ⟨Aq, cq, rfl⟩ := HQ.out.form
      have hkl : (sortF (fs.take k)).length = k := by rw [sortF_len, List.length_take]; omega
      rw [hkl] at HQ ⊢
      obtain ⟨wo, rfl⟩ : ∃ x : World, x = wr := ⟨_, rfl⟩
      have hin : Hid (StIn w wo wo.heap.size H (.slice Aq k cq) (sortF (fs.take k)) (.slice none 0 0) (insR f ((sortF (fs.take k)).take 0)).1) :=
        ⟨kk, HB.out, HQ.out.mono (fun b hb hlt => ⟨hb, hlt⟩), OFl.nil_ _ _ _, HB.out.lt, Nat.le_refl _⟩
      have HF := Hid.intro_ hf'
      have hk0 : 0 ≤ (k : Int) := by omega
      have hk1 : (k : Int) < (fs.length : Int) := by omega
      obtain ⟨L, hL⟩ : ∃ L, L = sortF (fs.take k) := ⟨_, rfl⟩
      rw [← hL] at hin hkl
      have HLL := Hid.intro_ hL
      obtain ⟨i2, hi2, hz0, hz1, hz2⟩ := info_parts info_file
      clear hf' hfs hL p0 p1 p2
      go_wp2_with fail
      go_loopw [7, 8, 9] (fun s pl j wi => ∃ (m : Nat) (p : Value), m ≤ k ∧ p = s ∧ j = .int .i64 m ∧ pl = .bool (insR f (L.take m)).2 ∧ Hid (StIn w wi wo.heap.size H (.slice Aq k cq) L p (insR f (L.take m)).1)) (fun _ _ j _ => k - (intOf j).toNat)
      case atStart => exact ⟨0, _, Nat.zero_le _, rfl, rfl, rfl, hin⟩
      case round =>
        obtain ⟨m, p, hm, rfl, rfl, rfl, HI⟩ := hrel
        by_cases hmt : m < k
        · obtain ⟨f2, hf2⟩ : ∃ f', L[m]? = some f' := ⟨_, List.getElem?_eq_getElem (by omega)⟩
          obtain ⟨g2, o2, Ar2, cr2, rfl, r0, r1, r2, hfs2⟩ := HI.out.old.get hf2
          obtain ⟨g3, o3, Ar, cr, e3, p0, p1, p2, hfs⟩ := ((HFL.out.mono (H' := fun b => (H b ∨ w.heap.size ≤ b) ∧ b < wo.heap.size) (fun b hb hlt => ⟨.inl hb, by have := HI.out.lt.1; omega⟩)).nil HI.out.keep).get HF.out
          injection e3 with e3
          injection e3 with e3 e4
          subst e3 e4
          have hst : Hid (insR f (L.take (m + 1)) = insStep f (insR f (L.take m)) f2) := Hid.intro_ (insR_succ hf2)
          obtain ⟨rs, hrl, ho, hve⟩ := HI.out.row.out
          have hln := insR_len f (L.take m)
          have hlm : (L.take m).length = m := by rw [List.length_take]; omega
          rw [hlm] at hln
          obtain ⟨R, hR⟩ : ∃ R, R = insR f (L.take m) := ⟨_, rfl⟩
          rw [← hR] at hst HI ho hrl hve hln ⊢
          obtain ⟨R1, pl⟩ := R
          have hR1 : R1.length ≤ 1099511627777 := by have : (pl.toNat) ≤ 1 := by cases pl <;> simp
                                                     simp at hln; omega
          simp only at HI ho hrl hve ⊢
          obtain ⟨N, hN⟩ : ∃ N, N = R1.length := ⟨_, rfl⟩
          rw [← hN] at ho hR1
          have HNN := Hid.intro_ hN
          have HO := Hid.intro_ ho
          have HVE := Hid.intro_ hve
          have HFS := Hid.intro_ hfs
          have HF2 := Hid.intro_ hf2
          have HFS2 := Hid.intro_ hfs2
          have hm0 : 0 ≤ (m : Int) := by omega
          have hm1 : (m : Int) < (k : Int) := by omega
          have hlt3 := HI.out.lt
          obtain ⟨Ap, cp, rfl⟩ := own_form ho
          obtain ⟨ls, hls⟩ : ∃ b, b = Op.bytesLess f.1.toList f2.1.toList := ⟨_, rfl⟩
          have HLS := Hid.intro_ hls
          have hls1 := hls.symm
          clear hf2 hfs hfs2 ho hve hln hlm hR hN hls
          cases pl
          · cases ls
            · go_wp2_with fail
              go_quiet (fail)
              obtain ⟨wa, ka, hwa⟩ : ∃ wa, Keep Nil wr wa ∧ wa = wr.drewN nq := ⟨_, (Keep.refl Nil wr).drewN _, rfl⟩
              rw [← hwa]
              clear hwa
              have s0 := cell_keep r0 ka (fun h => h)
              have s1' := cell_keep r1 ka (fun h => h)
              have s2 := cell_keep r2 ka (fun h => h)
              have t0 := cell_keep p0 ka (fun h => h)
              have t1 := cell_keep p1 ka (fun h => h)
              have t2 := cell_keep p2 ka (fun h => h)
              go_wp2_with (at_builtin; (refine wpList_append_own_at _ rfl (.tmp 44) (.tmp 49) 26 rfl wo.heap.size 55 i2 (.agg #[.string ⟨#[]⟩, .bool false, .slice none 0 0]) 3 48 Tryz.underlying26 hi2 hz0 hz1 hz2 rfl (by decide) (.slice Ap N cp) N (fileCells R1 rs) (by simp [Act.eval]) (own_keep HO.out (ka.alloc _) (fun g _ h => h)) ⟨wa.heap.size, 0, none⟩ 1 1 [.string f2.1, .bool f2.2.done, .slice Ar2 f2.2.blocks.length cr2] (by simp [Act.eval]) rfl (news_new rfl) (by simp [Value.oneCell']) (by unfold maxLen; omega) (by omega) (by have := ka.size; simp at *; omega) ?_; intro s1 w3 ho3 k3 _ hs1))
              have hfin : Hid (StIn w w3 wo.heap.size H (.slice (some ⟨g2, o2, none⟩) k cq) L s1 (insR f (L.take (m + 1))).1) := by
                have hh : insStep f (R1, false) f2 = (R1 ++ [f2], false) := by unfold insStep; rw [hls1]; rfl
                rw [hst.out, hh]
                exact HI.out.push hrl (by rw [← HNN.out]; exact HO.out) HVE.out HFS2.out (ka.alloc _) (by rw [← HNN.out]; exact ho3) (Keep.of_grown k3)
              have hpl : Hid ((insR f (L.take (m + 1))).2 = false) := by rw [hst.out]; unfold insStep; rw [hls1]; exact Hid.intro_ rfl
              go_wp2
              go_roundw
              case rel => exact ⟨m + 1, _, by omega, rfl, by go_num, by rw [hpl.out], hfin⟩
              case measure => simp [intOf]; omega
            · go_wp2_with fail
              go_quiet (fail)
              obtain ⟨wa, ka, hwa⟩ : ∃ wa, Keep Nil wr wa ∧ wa = wr.drewN nq := ⟨_, (Keep.refl Nil wr).drewN _, rfl⟩
              rw [← hwa]
              clear hwa
              have s0 := cell_keep r0 ka (fun h => h)
              have s1' := cell_keep r1 ka (fun h => h)
              have s2 := cell_keep r2 ka (fun h => h)
              have t0 := cell_keep p0 ka (fun h => h)
              have t1 := cell_keep p1 ka (fun h => h)
              have t2 := cell_keep p2 ka (fun h => h)
              go_wp2_with (first
                | (at_builtin; (refine wpList_append_own_at _ rfl (.tmp 37) (.tmp 42) 26 rfl wo.heap.size 55 i2 (.agg #[.string ⟨#[]⟩, .bool false, .slice none 0 0]) 3 48 Tryz.underlying26 hi2 hz0 hz1 hz2 rfl (by decide) (.slice Ap N cp) N (fileCells R1 rs) (by simp [Act.eval]) (own_keep HO.out (ka.alloc _) (fun g _ h => h)) ⟨wa.heap.size, 0, none⟩ 1 1 [.string f.1, .bool f.2.done, .slice Ar f.2.blocks.length cr] (by simp [Act.eval]) rfl (news_new rfl) (by simp [Value.oneCell']) (by unfold maxLen; omega) (by omega) (by have := ka.size; simp at *; omega) ?_; intro s1 w3 ho3 k3 _ hs1)
                   have h2 := HI.out.push hrl (by rw [← HNN.out]; exact HO.out) HVE.out HFS.out (ka.alloc _) (by rw [← HNN.out]; exact ho3) (Keep.of_grown k3)
                   have H2 := Hid.intro_ h2
                   obtain ⟨rs5, hrl5, ho5, hve5⟩ := h2.row.out
                   obtain ⟨g5, o5, Ar5, cr5, e5, v0, v1, v2, hfs5⟩ := h2.old.get HF2.out
                   injection e5 with e5
                   injection e5 with e5 e6
                   subst e5 e6
                   have hln5 : (R1 ++ [f]).length = N + 1 := by rw [List.length_append, ← HNN.out]; rfl
                   rw [hln5] at ho5
                   obtain ⟨a5, c5, rfl⟩ := own_form ho5
                   have HLN5 := Hid.intro_ hln5
                   have HO5 := Hid.intro_ ho5
                   have HVE5 := Hid.intro_ hve5
                   have HFS5 := Hid.intro_ hfs5
                   have l5 := h2.lt
                   clear h2 ho5 hve5 hfs5 hln5)
                | (at_builtin; (refine wpList_append_own_at _ rfl (.tmp 44) (.tmp 49) 26 rfl wo.heap.size 55 i2 (.agg #[.string ⟨#[]⟩, .bool false, .slice none 0 0]) 3 48 Tryz.underlying26 hi2 hz0 hz1 hz2 rfl (by decide) (.slice a5 (N + 1) c5) (N + 1) (fileCells (R1 ++ [f]) rs5) (by simp [Act.eval]) (own_keep HO5.out ((Keep.refl Nil w3).alloc _) (fun g _ h => h)) ⟨w3.heap.size, 0, none⟩ 1 1 [.string f2.1, .bool f2.2.done, .slice Ar5 f2.2.blocks.length cr5] (by simp [Act.eval]) rfl (news_new rfl) (by simp [Value.oneCell']) (by unfold maxLen; omega) (by omega) (by have := (Keep.refl Nil w3).size; simp at *; omega) ?_; intro s6 w6 ho6 k6 _ hs6)))
              have hfin : Hid (StIn w w6 wo.heap.size H (.slice (some ⟨g2, o2, none⟩) k cq) L s6 (insR f (L.take (m + 1))).1) := by
                have hh : insStep f (R1, false) f2 = (R1 ++ [f] ++ [f2], true) := by unfold insStep; rw [hls1]; rfl
                rw [hst.out, hh]
                exact H2.out.push hrl5 (by rw [HLN5.out]; exact HO5.out) HVE5.out HFS5.out ((Keep.refl Nil w3).alloc _) (by rw [HLN5.out]; exact ho6) (Keep.of_grown k6)
              have hpl : Hid ((insR f (L.take (m + 1))).2 = true) := by rw [hst.out]; unfold insStep; rw [hls1]; exact Hid.intro_ rfl
              go_wp2
              go_roundw
              case rel => exact ⟨m + 1, _, by omega, rfl, by go_num, by rw [hpl.out], hfin⟩
              case measure => simp [intOf]; omega
          · go_wp2_with fail
            go_quiet (fail)
            obtain ⟨wa, ka, hwa⟩ : ∃ wa, Keep Nil wr wa ∧ wa = wr.drewN nq := ⟨_, (Keep.refl Nil wr).drewN _, rfl⟩
            rw [← hwa]
            clear hwa
            have s0 := cell_keep r0 ka (fun h => h)
            have s1' := cell_keep r1 ka (fun h => h)
            have s2 := cell_keep r2 ka (fun h => h)
            have t0 := cell_keep p0 ka (fun h => h)
            have t1 := cell_keep p1 ka (fun h => h)
            have t2 := cell_keep p2 ka (fun h => h)
            go_wp2_with (at_builtin; (refine wpList_append_own_at _ rfl (.tmp 44) (.tmp 49) 26 rfl wo.heap.size 55 i2 (.agg #[.string ⟨#[]⟩, .bool false, .slice none 0 0]) 3 48 Tryz.underlying26 hi2 hz0 hz1 hz2 rfl (by decide) (.slice Ap N cp) N (fileCells R1 rs) (by simp [Act.eval]) (own_keep HO.out (ka.alloc _) (fun g _ h => h)) ⟨wa.heap.size, 0, none⟩ 1 1 [.string f2.1, .bool f2.2.done, .slice Ar2 f2.2.blocks.length cr2] (by simp [Act.eval]) rfl (news_new rfl) (by simp [Value.oneCell']) (by unfold maxLen; omega) (by omega) (by have := ka.size; simp at *; omega) ?_; intro s1 w3 ho3 k3 _ hs1))
            have hfin : Hid (StIn w w3 wo.heap.size H (.slice (some ⟨g2, o2, none⟩) k cq) L s1 (insR f (L.take (m + 1))).1) := by
              rw [hst.out]
              exact HI.out.push hrl (by rw [← HNN.out]; exact HO.out) HVE.out HFS2.out (ka.alloc _) (by rw [← HNN.out]; exact ho3) (Keep.of_grown k3)
            have hpl : Hid ((insR f (L.take (m + 1))).2 = true) := by rw [hst.out]; exact Hid.intro_ rfl
            go_wp2
            go_roundw
            case rel => exact ⟨m + 1, _, by omega, rfl, by go_num, by rw [hpl.out], hfin⟩
            case measure => simp [intOf]; omega
        · obtain rfl : m = k := by omega
          obtain ⟨g3, o3, Ar, cr, e3, p0, p1, p2, hfs⟩ := ((HFL.out.mono (H' := fun b => (H b ∨ w.heap.size ≤ b) ∧ b < wo.heap.size) (fun b hb hlt => ⟨.inl hb, by have := HI.out.lt.1; omega⟩)).nil HI.out.keep).get HF.out
          injection e3 with e3
          injection e3 with e3 e4
          subst e3 e4
          obtain ⟨rs, hrl, ho, hve⟩ := HI.out.row.out
          have htk : L.take m = L := by rw [← hkl, List.take_length]
          have hln := insR_len f L
          rw [htk] at HI ho hrl hve ⊢
          have hnx : Hid (sortF (fs.take (m + 1)) = if (insR f L).2 then (insR f L).1 else (insR f L).1 ++ [f]) := by rw [sortF_succ HF.out, ← HLL.out]; exact Hid.intro_ rfl
          obtain ⟨R, hR⟩ : ∃ R, R = insR f L := ⟨_, rfl⟩
          rw [← hR] at hnx HI ho hrl hve hln ⊢
          obtain ⟨R1, pl⟩ := R
          have hR1 : R1.length ≤ 1099511627777 := by have : (pl.toNat) ≤ 1 := by cases pl <;> simp
                                                     simp at hln; omega
          simp only at hnx HI ho hrl hve ⊢
          obtain ⟨N, hN⟩ : ∃ N, N = R1.length := ⟨_, rfl⟩
          rw [← hN] at ho hR1
          have HNN := Hid.intro_ hN
          have HO := Hid.intro_ ho
          have HVE := Hid.intro_ hve
          have HFS := Hid.intro_ hfs
          have hlt3 := HI.out.lt
          obtain ⟨Ap, cp, rfl⟩ := own_form ho
          clear hfs ho hve hln hR hN htk
          have key : ∀ (wx : World) (q p : Value) (R : List (ByteArray × AFile)), StIn w wx wo.heap.size H q L p R → FlAt wx (fun b => H b ∨ w.heap.size ≤ b) p R := fun wx q p R h => (h.row.mono (H' := fun b => H b ∨ w.heap.size ≤ b) (fun b hb _ => hb.1)).fl (fun g hg => .inr (by obtain ⟨_, _, ho, _⟩ := h.row.out; have := own_base ho hg; omega))
          have KEY := Hid.intro_ key
          clear key
          cases pl
          · go_wp2_with (at_builtin; (refine wpList_append_own_at _ rfl (.tmp 53) (.tmp 58) 26 rfl wo.heap.size 55 i2 (.agg #[.string ⟨#[]⟩, .bool false, .slice none 0 0]) 3 48 Tryz.underlying26 hi2 hz0 hz1 hz2 rfl (by decide) (.slice Ap N cp) N (fileCells R1 rs) (by simp [Act.eval]) (own_keep HO.out ((Keep.refl Nil wr).alloc _) (fun g _ h => h)) ⟨wr.heap.size, 0, none⟩ 1 1 [.string f.1, .bool f.2.done, .slice Ar f.2.blocks.length cr] (by simp [Act.eval]) rfl (news_new rfl) (by simp [Value.oneCell']) (by unfold maxLen; omega) (by omega) (by have := (Keep.refl Nil wr).size; simp at *; omega) ?_; intro s1 w3 ho3 k3 _ hs1))
            have h2 := HI.out.push hrl (by rw [← HNN.out]; exact HO.out) HVE.out HFS.out ((Keep.refl Nil wr).alloc _) (by rw [← HNN.out]; exact ho3) (Keep.of_grown k3)
            have h3 : Hid (FlAt w3 (fun b => H b ∨ w.heap.size ≤ b) s1 (sortF (fs.take (m + 1)))) := by rw [hnx.out]; exact KEY.out _ _ _ _ h2
            have h4 := Hid.intro_ h2.keep
            have h5 := Hid.intro_ h2.res
            clear h2
            go_roundw
            case rel => exact ⟨m + 1, _, by omega, rfl, by go_num, h4.out, h5, h3⟩
            case measure => simp [intOf]; omega
          · have h3 : Hid (FlAt wr (fun b => H b ∨ w.heap.size ≤ b) (.slice Ap N cp) (sortF (fs.take (m + 1)))) := by rw [hnx.out]; exact KEY.out _ _ _ _ HI.out
            have h4 := Hid.intro_ HI.out.keep
            have h5 := Hid.intro_ HI.out.res
            go_wp2
            go_roundw
            case rel => exact ⟨m + 1, _, by omega, rfl, by go_num, h4.out, h5, h3⟩
            case measure => simp [intOf]; omega
    · obtain rfl : k = fs.length := by omega
      rw [List.take_length] at HQ
      obtain ⟨Av, cv, rfl⟩ := HQ.out.form
      have z0 : wr.cell? ⟨w.heap.size, 0, none⟩ = some (.int .i64 0) := HB.out.at_ 0
      have z1 : wr.cell? ⟨w.heap.size, 1, none⟩ = some (.slice none 0 0) := HB.out.at_ 1
      have f0 := HB.out.fr 0
      have f1 := HB.out.fr 1
      obtain ⟨N, hN⟩ : ∃ N, N = (sortF fs).length := ⟨_, rfl⟩
      rw [← hN] at HQ ⊢
      clear hN
      go_wp2
      refine bodyPost_ret (v := .agg #[.int .i64 block, .slice Av N cv]) (by simp [results, Tryz.results56, go_sem, z0, z1]) rfl ?_
      have ks := ((Keep.refl (fun b => b = w.heap.size) wr).setCell (p := ⟨w.heap.size, 0, none⟩) (fun _ => rfl) (.int .i64 block)).setCell (p := ⟨w.heap.size, 1, none⟩) (fun _ => rfl) (.slice Av N cv)
      refine ⟨_, rfl, ⟨_, rfl, HQ.out.far (g := w.heap.size) ks (fun cs t fr hc => ?_)⟩, kk.trans ks (fun b hb e => by have : b = w.heap.size := e; omega)⟩
      have hb := HB.out
      unfold Blk at hb
      rw [hc] at hb
      injection hb with hb
      injection hb with _ hb
      subst hb
      exact ⟨by decide, by decide, by decide⟩
end Go.Proofs.YtadipinnbehhhaaGreatDoor
