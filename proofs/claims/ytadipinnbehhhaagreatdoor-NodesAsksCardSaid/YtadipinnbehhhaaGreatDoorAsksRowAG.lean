/- The references' SameFile, SameState: at what is the same they answer true. The references' Find, Without. The references' Copy: a state of one's own. The references' Blocks and Tape: records as blocks. The references' SameRecs: at the same records it answers true. -/
import Derived.Laws.IdiomStrings
import Derived.StillTailTactics
import Derived.Laws.AppendOwn
import Derived.Laws.StructEq
import Derived.KernelRfl
import Derived.Test.YtadipinnbehhhaaGreatDoorAsksRowAD
import Derived.Test.YtadipinnbehhhaaGreatDoorAsksRowAF
namespace Go.Proofs.YtadipinnbehhhaaGreatDoor
open Go.RowKit

def toB (bs : List Int) : List UInt8 := bs.map fun x => UInt8.ofNat x.toNat
theorem toB_len (bs : List Int) : (toB bs).length = bs.length := by simp [toB]
/-- string(b). -/
theorem conv_str (w : World) (a : Addr) (cap : Nat) (bs : List Int) (hr : Rd w (some a) (by8 bs)) (h8 : ∀ x ∈ bs, 0 ≤ x ∧ x ≤ 255) : (convert 161 9 (.slice (some a) bs.length cap)).run Tryz.prog w = .ok (.string ⟨(toB bs).toArray⟩) w := by
  have := run_convert_bytes_back (P := Tryz.prog) w 161 9 5 a cap (toB bs) Tryz.underlying161 Tryz.underlying5 Tryz.underlying9 (fun j hj => by
    rw [toB_len] at hj
    have hb : bs[j]? = some bs[j] := List.getElem?_eq_getElem hj
    obtain ⟨ad, e, hc⟩ := hr j (.int .u8 bs[j]) (by unfold by8; rw [List.getElem?_map, hb]; rfl)
    injection e with e
    subst e
    rw [hc]
    have := h8 bs[j] (List.getElem_mem hj)
    congr 2
    simp only [toB, List.getElem_map, UInt8.toNat_ofNat']
    omega)
  rw [toB_len] at this
  exact this
/-- string(b) of none. -/
theorem conv_str_nil (w : World) (cap : Nat) : (convert 161 9 (.slice none 0 cap)).run Tryz.prog w = .ok (.string ⟨#[]⟩) w := by
  rw [run_convert_bytes_string w 161 9 5 none 0 cap Tryz.underlying161 Tryz.underlying5 Tryz.underlying9]
  simp [Conv.bytesToString, go_sem]
  rfl
theorem conv_any {w : World} {H : Nat → Prop} {v : Value} {bs : List Int} (h : BsAt w H v bs) (h8 : ∀ x ∈ bs, 0 ≤ x ∧ x ≤ 255) (n : Nat) : (convert 161 9 v).run Tryz.prog (w.drewN n) = .ok (.string ⟨(toB bs).toArray⟩) (w.drewN n) := by
  obtain ⟨A, c, rfl, hc, hr, hi, ht⟩ := h.out
  cases A with
  | some a => exact conv_str (w.drewN n) a c bs (hr.keep ((Keep.refl Nil w).drewN n) (fun _ _ _ h => h)) h8
  | none =>
    have hl : bs = [] := by
      rcases bs with _ | ⟨x, l⟩
      · rfl
      · obtain ⟨ad, e, _⟩ := hr 0 (.int .u8 x) (by simp [by8])
        cases e
    subst hl
    exact conv_str_nil _ _
set_option maxRecDepth 100000 in
set_option maxHeartbeats 2000000 in
theorem samefile_true (H H' : Nat → Prop) (v v' : Value) (f : ByteArray × AFile) (w : World) (hf : FsAt w H v f.2.blocks) (hg : FsAt w H' v' f.2.blocks) (h8 : ∀ b ∈ f.2.blocks, ∀ x ∈ b, 0 ≤ x ∧ x ≤ 255) (hl : f.2.blocks.length ≤ 9223372036854775807) :
    Calls Tryz.prog 74 #[.agg #[.string f.1, .bool f.2.done, v], .agg #[.string f.1, .bool f.2.done, v']] w fun e w' => e = .returned (.bool true) ∧ Keep Nil w w' := by
  obtain ⟨A, c, vs, rfl, hvl, hvr, hvi, hvt, hvb⟩ := hf.out
  obtain ⟨A', c', vs', rfl, hvl', hvr', hvi', hvt', hvb'⟩ := hg.out
  have HVR := Hid.intro_ hvr
  have HVR' := Hid.intro_ hvr'
  have HVB := Hid.intro_ hvb
  have HVB' := Hid.intro_ hvb'
  have H8 := Hid.intro_ h8
  obtain ⟨nb, hnb⟩ : ∃ n, n = f.2.blocks.length := ⟨_, rfl⟩
  rw [← hnb] at hl hvl hvl' ⊢
  have HNB := Hid.intro_ hnb
  obtain ⟨dn, hdn⟩ : ∃ b, b = f.2.done := ⟨_, rfl⟩
  rw [← hdn]
  have q2 : (dn != dn) = false := by simp
  have q3 : ((nb : Int) != nb) = false := by simp
  have k0 : Keep Nil w ((w.alloc (.cells #[.string f.1, .bool dn, .slice A nb c] 55)).alloc (.cells #[.string f.1, .bool dn, .slice A' nb c'] 55)) := ((Keep.refl Nil w).alloc _).alloc _
  have hb1 := (Blk.new w 55 #[.string f.1, .bool dn, .slice A nb c]).alloc (.cells #[.string f.1, .bool dn, .slice A' nb c'] 55)
  have hb2 := Blk.new_at (n := w.heap.size + 1) (w.alloc (.cells #[.string f.1, .bool dn, .slice A nb c] 55)) 55 #[.string f.1, .bool dn, .slice A' nb c'] (by simp)
  have K0 := Hid.intro_ k0
  have B1 := Hid.intro_ hb1
  have B2 := Hid.intro_ hb2
  clear hf hg hvr hvr' hvb hvb' hvt hvt' h8 hnb hdn k0 hb1 hb2
  go_enter Tryz.func74, Tryz.ntmps74
  go_wp2
  go_loopw [5] (fun i wr => ∃ k : Nat, k ≤ nb ∧ i = .int .i64 k ∧ Keep Nil ((w.alloc (.cells #[.string f.1, .bool dn, .slice A nb c] 55)).alloc (.cells #[.string f.1, .bool dn, .slice A' nb c'] 55)) wr) (fun i _ => nb - (intOf i).toNat)
  case atStart => exact ⟨0, Nat.zero_le _, rfl, Keep.refl _ _⟩
  case round =>
    obtain ⟨k, hk, rfl, kwr⟩ := hrel
    have b1 := B1.out.keep kwr (fun h => h)
    have b2 := B2.out.keep kwr (fun h => h)
    have x2 : wr.cell? ⟨w.heap.size, 2, none⟩ = some (.slice A nb c) := b1.at_ 2
    have y2 : wr.cell? ⟨w.heap.size + 1, 2, none⟩ = some (.slice A' nb c') := b2.at_ 2
    by_cases hlt : k < nb
    · obtain ⟨bs, hbs⟩ : ∃ bs, f.2.blocks[k]? = some bs := ⟨_, List.getElem?_eq_getElem (by rw [← HNB.out]; exact hlt)⟩
      obtain ⟨u, hu⟩ : ∃ u, vs[k]? = some u := ⟨_, List.getElem?_eq_getElem (by omega)⟩
      obtain ⟨u', hu'⟩ : ∃ u, vs'[k]? = some u := ⟨_, List.getElem?_eq_getElem (by omega)⟩
      have kk := K0.out.then_ kwr
      have hb := (HVB.out k u bs hu hbs).nil kk
      have hb' := (HVB'.out k u' bs hu' hbs).nil kk
      obtain ⟨⟨g, o, sp⟩, rfl, p⟩ := HVR.out k u hu
      obtain rfl : sp = none := (hvi _ rfl).3
      obtain ⟨⟨g', o', sp'⟩, rfl, p'⟩ := HVR'.out k u' hu'
      obtain rfl : sp' = none := (hvi' _ rfl).3
      rw [add_at] at p p'
      have p2 := cell_keep p kk (fun h => h)
      have p2' := cell_keep p' kk (fun h => h)
      have cv := conv_any hb (H8.out bs (List.mem_of_getElem? hbs))
      have cv' := conv_any hb' (H8.out bs (List.mem_of_getElem? hbs))
      obtain ⟨T, hT⟩ : ∃ T, T = (toB bs) := ⟨_, rfl⟩
      rw [← hT] at cv cv'
      obtain ⟨A3, c3, rfl, _⟩ := hb.out
      obtain ⟨A4, c4, rfl, _⟩ := hb'.out
      have q : (T != T) = false := by simp
      have hk0 : 0 ≤ (k : Int) := by omega
      have hk1 : (k : Int) < (nb : Int) := by omega
      clear hbs hu hu' hT p p' hb hb'
      go_wp2_with fail
      go_quiet (fail)
      go_wp2
      go_roundw
      case rel => exact ⟨k + 1, by omega, by go_num, kwr.drewN _⟩
      case measure => simp [intOf]; omega
    · obtain rfl : k = nb := by omega
      go_wp2
      go_ret
      exact ⟨rfl, K0.out.then_ kwr⟩
/-- A file of a row of files, in memory. -/
theorem FlAt.get {w : World} {H : Nat → Prop} {A : Option Addr} {n c k : Nat} {fs : List (ByteArray × AFile)} {f : ByteArray × AFile} (h : FlAt w H (.slice A n c) fs) (hk : fs[k]? = some f) :
    ∃ g o Ar cr, A = some ⟨g, o, none⟩ ∧ w.cell? ⟨g, o + k * 3, none⟩ = some (.string f.1) ∧ w.cell? ⟨g, o + k * 3 + 1, none⟩ = some (.bool f.2.done) ∧ w.cell? ⟨g, o + k * 3 + 2, none⟩ = some (.slice Ar f.2.blocks.length cr) ∧ FsAt w H (.slice Ar f.2.blocks.length cr) f.2.blocks := by
  obtain ⟨A', c', rs, e0, hrl, hrr, hri, hrt, hre⟩ := h.out
  injection e0 with e1 e2 e3
  subst e1
  obtain ⟨r, hr⟩ : ∃ r, rs[k]? = some r := ⟨_, List.getElem?_eq_getElem (by rw [hrl]; exact (List.getElem?_eq_some_iff.1 hk).1)⟩
  obtain ⟨a0, a1, a2⟩ := fileCells_at fs rs k f r hk hr
  have hfs := hre k r f hr hk
  obtain ⟨⟨g, o, sp⟩, rfl, p0⟩ := hrr _ _ a0
  obtain rfl : sp = none := (hri _ rfl).3
  obtain ⟨_, e, p1⟩ := hrr _ _ a1
  injection e with e; subst e
  obtain ⟨_, e, p2⟩ := hrr _ _ a2
  injection e with e; subst e
  rw [add_at] at p0 p1 p2
  rw [← Nat.add_assoc] at p1 p2
  obtain ⟨Ar, cr, _, rfl, _⟩ := hfs.out
  exact ⟨g, o, Ar, cr, rfl, p0, p1, p2, hfs⟩
theorem FlAt.form {w : World} {H : Nat → Prop} {v : Value} {fs : List (ByteArray × AFile)} (h : FlAt w H v fs) : ∃ A c, v = .slice A fs.length c := by
  obtain ⟨A, c, rs, e, _⟩ := h.out
  exact ⟨A, c, e⟩
/-- Bytes are bytes. -/
def Bytes (fs : List (ByteArray × AFile)) : Prop := ∀ f ∈ fs, ∀ b ∈ f.2.blocks, ∀ x ∈ b, 0 ≤ x ∧ x ≤ 255
/-- Few files of few blocks. -/
def Few (fs : List (ByteArray × AFile)) : Prop := fs.length ≤ 1099511627776 ∧ ∀ f ∈ fs, f.2.blocks.length ≤ 1099511627776
set_option maxRecDepth 100000 in
set_option maxHeartbeats 2000000 in
theorem samestate_true (H H' : Nat → Prop) (v v' : Value) (block : Int) (fs : List (ByteArray × AFile)) (w : World) (hs : StAt w H v block fs) (hs' : StAt w H' v' block fs) (h8 : Bytes fs) (hl : Few fs) :
    Calls Tryz.prog 63 #[v, v'] w fun e w' => e = .returned (.bool true) ∧ Keep Nil w w' := by
  obtain ⟨u, rfl, hf⟩ := hs.out
  obtain ⟨u', rfl, hf'⟩ := hs'.out
  obtain ⟨A, c, rs, rfl, hrl, hrr, hri, hrt, hre⟩ := hf.out
  obtain ⟨A', c', rs', rfl, hrl', hrr', hri', hrt', hre'⟩ := hf'.out
  have HR := Hid.intro_ hrr
  have HR' := Hid.intro_ hrr'
  have HE := Hid.intro_ hre
  have HE' := Hid.intro_ hre'
  have H8 := Hid.intro_ h8
  have HL := Hid.intro_ hl
  have hln := hl.1
  obtain ⟨n, hn⟩ : ∃ n, n = fs.length := ⟨_, rfl⟩
  rw [← hn] at hrl hrl' hln ⊢
  have HN := Hid.intro_ hn
  have q2 : (block != block) = false := by simp
  have q3 : ((n : Int) != n) = false := by simp
  have k0 : Keep Nil w ((w.alloc (.cells #[.int .i64 block, .slice A n c] 28)).alloc (.cells #[.int .i64 block, .slice A' n c'] 28)) := ((Keep.refl Nil w).alloc _).alloc _
  have hb1 := (Blk.new w 28 #[.int .i64 block, .slice A n c]).alloc (.cells #[.int .i64 block, .slice A' n c'] 28)
  have hb2 := Blk.new_at (n := w.heap.size + 1) (w.alloc (.cells #[.int .i64 block, .slice A n c] 28)) 28 #[.int .i64 block, .slice A' n c'] (by simp)
  have K0 := Hid.intro_ k0
  have B1 := Hid.intro_ hb1
  have B2 := Hid.intro_ hb2
  clear hs hs' hf hf' hrr hrr' hre hre' hrt hrt' h8 hl hn k0 hb1 hb2
  go_enter Tryz.func63, Tryz.ntmps63
  go_wp2
  go_loopw [5] (fun i wr => ∃ k : Nat, k ≤ n ∧ i = .int .i64 k ∧ Keep Nil ((w.alloc (.cells #[.int .i64 block, .slice A n c] 28)).alloc (.cells #[.int .i64 block, .slice A' n c'] 28)) wr) (fun i _ => n - (intOf i).toNat)
  case atStart => exact ⟨0, Nat.zero_le _, rfl, Keep.refl _ _⟩
  case round =>
    obtain ⟨k, hk, rfl, kwr⟩ := hrel
    have b1 := B1.out.keep kwr (fun h => h)
    have b2 := B2.out.keep kwr (fun h => h)
    have x2 : wr.cell? ⟨w.heap.size, 1, none⟩ = some (.slice A n c) := b1.at_ 1
    have y2 : wr.cell? ⟨w.heap.size + 1, 1, none⟩ = some (.slice A' n c') := b2.at_ 1
    by_cases hlt : k < n
    · obtain ⟨f, hf⟩ : ∃ f, fs[k]? = some f := ⟨_, List.getElem?_eq_getElem (by rw [← HN.out]; exact hlt)⟩
      obtain ⟨r, hr⟩ : ∃ r, rs[k]? = some r := ⟨_, List.getElem?_eq_getElem (by omega)⟩
      obtain ⟨r', hr'⟩ : ∃ r, rs'[k]? = some r := ⟨_, List.getElem?_eq_getElem (by omega)⟩
      have kk := K0.out.then_ kwr
      obtain ⟨a0, a1, a2⟩ := fileCells_at fs rs k f r hf hr
      obtain ⟨a0', a1', a2'⟩ := fileCells_at fs rs' k f r' hf hr'
      have hfs := (HE.out k r f hr hf).nil kk.drew
      have hfs' := (HE'.out k r' f hr' hf).nil kk.drew
      obtain ⟨⟨g, o, sp⟩, rfl, p0⟩ := HR.out _ _ a0
      obtain rfl : sp = none := (hri _ rfl).3
      obtain ⟨_, e, p1⟩ := HR.out _ _ a1
      injection e with e; subst e
      obtain ⟨_, e, p2⟩ := HR.out _ _ a2
      injection e with e; subst e
      obtain ⟨⟨g', o', sp'⟩, rfl, p0'⟩ := HR'.out _ _ a0'
      obtain rfl : sp' = none := (hri' _ rfl).3
      obtain ⟨_, e, p1'⟩ := HR'.out _ _ a1'
      injection e with e; subst e
      obtain ⟨_, e, p2'⟩ := HR'.out _ _ a2'
      injection e with e; subst e
      rw [add_at] at p0 p1 p2 p0' p1' p2'
      rw [← Nat.add_assoc] at p1 p2 p1' p2'
      have z0 := cell_keep p0 kk (fun h => h)
      have z1 := cell_keep p1 kk (fun h => h)
      have z2 := cell_keep p2 kk (fun h => h)
      have z0' := cell_keep p0' kk (fun h => h)
      have z1' := cell_keep p1' kk (fun h => h)
      have z2' := cell_keep p2' kk (fun h => h)
      obtain ⟨Ar, cr, _, rfl, _⟩ := hfs.out
      obtain ⟨Ar', cr', _, rfl, _⟩ := hfs'.out
      have hsf := samefile_true _ _ _ _ f wr.drew hfs hfs' (H8.out f (List.mem_of_getElem? hf)) (by have := HL.out.2 f (List.mem_of_getElem? hf); omega)
      have HSF := Hid.intro_ hsf
      have hk0 : 0 ≤ (k : Int) := by omega
      have hk1 : (k : Int) < (n : Int) := by omega
      clear hf hr hr' a0 a1 a2 a0' a1' a2' p0 p1 p2 p0' p1' p2' hfs hfs' hsf
      go_wp2_with fail
      go_still_tail 10, (by kernel_rfl)
      change wpList _ _ _ _ _ wr.drew
      go_wp2_with fail
      refine HSF.out.mono ?_
      rintro e w3 ⟨rfl, k3⟩
      go_wp2
      go_roundw
      case rel => exact ⟨k + 1, by omega, by go_num, kwr.drew.then_ k3⟩
      case measure => simp [intOf]; omega
    · obtain rfl : k = n := by omega
      go_wp2
      go_ret
      exact ⟨rfl, K0.out.then_ kwr⟩
end Go.Proofs.YtadipinnbehhhaaGreatDoor
namespace Go.Proofs.YtadipinnbehhhaaGreatDoor
open Go.RowKit

theorem toList_inj {a b : ByteArray} (h : a.toList = b.toList) : a = b := by
  rw [Lib.toList_data, Lib.toList_data] at h
  cases a; cases b
  congr
  exact Array.toList_inj.1 h
/-- What stands of Without when k files have been looked at. -/
structure WoInv (w wr : World) (b0 : Nat) (H : Nat → Prop) (block : Int) (sv : Value) (done : List (ByteArray × AFile)) : Prop where mk ::
  keep : Keep Nil w wr
  st : Blk wr w.heap.size 28 #[.int .i64 block, sv]
  res : Blk wr (w.heap.size + 1) 28 #[.int .i64 0, .slice none 0 0]
  out : ∃ v, Blk wr (w.heap.size + 2) 28 #[.int .i64 block, v] ∧ OFl wr b0 (fun b => H b ∨ w.heap.size ≤ b) v done
/-- One more comes to the row. -/
theorem WoInv.push {w wr w1 : World} {b0 : Nat} {H : Nat → Prop} {block : Int} {sv : Value} {done : List (ByteArray × AFile)} {f : ByteArray × AFile} {v v' u : Value} {rs : List Value} {w2 : World} (hb0 : w.heap.size + 2 < b0) (h : WoInv w wr b0 H block sv done)
    (hv : Blk wr (w.heap.size + 2) 28 #[.int .i64 block, v]) (hrl : rs.length = done.length) (ho : wr.ownsRow b0 55 3 v done.length (fileCells done rs))
    (hve : ∀ (j : Nat) (r : Value) (f : ByteArray × AFile), rs[j]? = some r → done[j]? = some f → FsAt wr (fun b => H b ∨ w.heap.size ≤ b) r f.2.blocks) (hof : FsAt wr (fun b => H b ∨ w.heap.size ≤ b) u f.2.blocks) (ka : Keep Nil wr w2)
    (ho1 : w1.ownsRow b0 55 3 v' (done.length + 1) (fileCells done rs ++ [.string f.1, .bool f.2.done, u])) (k1 : Keep (fun b => v.ownBlock = some b) w2 w1) (hv1 : v'.ownBlock = v.ownBlock ∨ v'.ownBlock = some w2.heap.size) :
    WoInv w (w1.setCell ⟨w.heap.size + 2, 1, none⟩ v') b0 H block sv (done ++ [f]) := by
  obtain ⟨a1, a2, a3, _⟩ := h
  have hvg : ∀ b, v.ownBlock = some b → b0 ≤ b := fun b hb => own_base ho hb
  have nst : ∀ {b : Nat} {cs : Array Value}, Blk wr b 28 cs → ¬ v.ownBlock = some b := fun hb e => by
    obtain ⟨cur, hc⟩ := own_blk ho e
    exact Blk.ne_ hb hc (by decide) rfl
  have nst' : ∀ {b : Nat} {cs : Array Value}, Blk wr b 28 cs → ¬ v'.ownBlock = some b := fun {b cs} hb e => by
    rcases hv1 with h3 | h3
    · exact nst hb (by rw [← h3]; exact e)
    · rw [h3] at e; injection e with e; have := ka.size; have := hb.lt; omega
  have kw1 : Keep (fun b => v.ownBlock = some b) wr w1 := (ka.mono (fun _ _ h => h.elim)).then_ k1
  have ks := (Keep.refl (fun b => b = w.heap.size + 2) w1).setCell (p := ⟨w.heap.size + 2, 1, none⟩) (fun _ => rfl) v'
  refine ⟨?_, ?_, ?_, v', ?_, ?_⟩
  · refine (a1.trans kw1 (fun b hb e => by have := hvg b e; omega)).trans ks (fun b hb e => by have : b = w.heap.size + 2 := e; omega)
  · exact (a2.keep kw1 (nst a2)).keep ks (fun e => by have : w.heap.size = w.heap.size + 2 := e; omega)
  · exact (a3.keep kw1 (nst a3)).keep ks (fun e => by have : w.heap.size + 1 = w.heap.size + 2 := e; omega)
  · exact (hv.keep kw1 (nst hv)).set_ 1 v'
  · have hpush : OFl w1 b0 (fun b => H b ∨ w.heap.size ≤ b) v' (done ++ [f]) :=
      OFl.push (w1 := w2) (rs := rs) (v := v) (fun j r f hr hf => (hve j r f hr hf).nil ka) hrl (own_keep ho ka (fun _ _ h => h)) (hof.nil ka) ho1 k1
    have hst1 := hv.keep kw1 (nst hv)
    obtain ⟨rs1, g1, g2, g3⟩ := hpush.out
    refine ⟨rs1, g1, own_keep g2 ks (fun g hg e => nst' hv (by rw [← show g = w.heap.size + 2 from e]; exact hg)), fun j r f hr hf => ?_⟩
    refine (g3 j r f hr hf).far (g := w.heap.size + 2) ks (fun cs fr hc => ?_) (fun cs fr hc => ?_)
    · unfold Blk at hst1; rw [hc] at hst1; injection hst1 with hst1; injection hst1 with _ hst1; exact absurd hst1 (by decide)
    · unfold Blk at hst1; rw [hc] at hst1; injection hst1 with hst1; injection hst1 with _ hst1; exact absurd hst1 (by decide)
/-- The files of other names. -/
def others (s : ByteArray) (fs : List (ByteArray × AFile)) : List (ByteArray × AFile) := fs.filter fun f => decide (¬ f.1 = s)
end Go.Proofs.YtadipinnbehhhaaGreatDoor
namespace Go.Proofs.YtadipinnbehhhaaGreatDoor
open Go.RowKit

theorem toB_get (bs : List Int) (h8 : ∀ x ∈ bs, 0 ≤ x ∧ x ≤ 255) (j : Nat) (v : Value) (h : (by8 bs)[j]? = some v) : ∃ hj : j < (toB bs).length, v = .int .u8 ((toB bs)[j].toNat : Int) := by
  unfold by8 at h
  rw [List.getElem?_map, Option.map_eq_some_iff] at h
  obtain ⟨x, hx, rfl⟩ := h
  obtain ⟨hj, e⟩ := List.getElem?_eq_some_iff.1 hx
  have := h8 x (List.mem_of_getElem? hx)
  refine ⟨by rw [toB_len]; exact hj, ?_⟩
  congr 1
  simp only [toB, List.getElem_map, UInt8.toNat_ofNat', e]
  omega
/-- Bytes of a string of one's own. -/
theorem bytes_new (w : World) (bs : List Int) (h8 : ∀ x ∈ bs, 0 ≤ x ∧ x ≤ 255) (cap : Nat) (hc : bs.length ≤ cap) (fr : Nat × Nat) :
    BsAt (w.alloc (.cells (bytesRow ⟨(toB bs).toArray⟩ cap) 5 fr)) (fun b => b = w.heap.size) (.slice (some ⟨w.heap.size, 0, none⟩) bs.length cap) bs := by
  have hh : (w.alloc (.cells (bytesRow ⟨(toB bs).toArray⟩ cap) 5 fr)).heap[w.heap.size]? = some (.cells (bytesRow ⟨(toB bs).toArray⟩ cap) 5 fr) := by
    show (w.heap.push _)[w.heap.size]? = _
    simp
  refine ⟨some ⟨w.heap.size, 0, none⟩, cap, rfl, hc, fun j v hv => ?_, fun a e => by injection e with e; subst e; exact ⟨rfl, lt_of_heap hh, rfl⟩, fun a e => by injection e with e; subst e; exact ⟨_, _, hh⟩⟩
  obtain ⟨hj, rfl⟩ := toB_get bs h8 j v hv
  refine ⟨_, rfl, ?_⟩
  rw [add_at, Nat.zero_add]
  have := bytesRow_at ⟨(toB bs).toArray⟩ cap j (by simpa using hj)
  simp only [World.cell?, hh]
  simpa using this
/-- What stands of Copy in the midst of a file. -/
structure CoIn (w wi : World) (B : Nat) (block : Int) (sv : Value) (done : List (ByteArray × AFile)) (s : ByteArray) (fd : Bool) (bl : List (List Int)) : Prop where mk ::
  keep : Keep Nil w wi
  st : Blk wi w.heap.size 28 #[.int .i64 block, sv]
  res : Blk wi (w.heap.size + 1) 28 #[.int .i64 0, .slice none 0 0]
  out : ∃ v, Blk wi (w.heap.size + 2) 28 #[.int .i64 block, v] ∧ OFl wi (w.heap.size + 3) (fun b => w.heap.size ≤ b ∧ b < B) v done ∧ ∀ g, v.ownBlock = some g → g < B
  file : ∃ v, Blk wi B 55 #[.string s, .bool fd, v] ∧ OFs wi B (fun b => B ≤ b) v bl
  lt : w.heap.size + 2 < B
theorem CoIn.push {w wr w2' w3 : World} {B : Nat} {block : Int} {sv v v' u : Value} {done : List (ByteArray × AFile)} {s : ByteArray} {fd : Bool} {bl : List (List Int)} {bs : List Int} {vs0 : List Value}
    (h : CoIn w wr B block sv done s fd bl) (hv : Blk wr B 55 #[.string s, .bool fd, v]) (ho : wr.ownsRow B 161 1 v bl.length vs0)
    (hv0 : ∀ (j : Nat) (u : Value) (bs : List Int), vs0[j]? = some u → bl[j]? = some bs → BsAt wr (fun b => B ≤ b) u bs) (kk : Keep Nil wr w2') (hb2 : BsAt w2' (fun b => wr.heap.size ≤ b) u bs)
    (ho3 : w3.ownsRow B 161 1 v' (bl.length + 1) (vs0 ++ [u])) (k3 : Keep (fun b => v.ownBlock = some b) w2' w3) (hv3 : v'.ownBlock = v.ownBlock ∨ v'.ownBlock = some w2'.heap.size) :
    CoIn w (w3.setCell ⟨B, 2, none⟩ v') B block sv done s fd (bl ++ [bs]) := by
  obtain ⟨a1, a2, a3, ⟨vo, a4, a5, a6⟩, _, l1⟩ := h
  have hg := hv.lt
  have hvg : ∀ b, v.ownBlock = some b → B ≤ b := fun b hb => own_base ho hb
  have nvg : ¬ v.ownBlock = some B := fun e => by
    obtain ⟨cur, hc⟩ := own_blk ho e
    exact Blk.ne_ hv hc (by decide) rfl
  have nvg' : ¬ v'.ownBlock = some B := fun e => by
    rcases hv3 with h3 | h3
    · exact nvg (by rw [← h3]; exact e)
    · rw [h3] at e; injection e with e; have := kk.size; omega
  have K : Keep (fun b => B ≤ b) wr (w3.setCell ⟨B, 2, none⟩ v') := ((kk.mono (fun _ _ h => h.elim)).trans (k3.mono (fun b _ hb => hvg b hb)) (fun _ _ h => h)).setCell (p := ⟨B, 2, none⟩) (fun _ => Nat.le_refl _) _
  have low : ∀ b, b < B → ¬ (B ≤ b) := fun b hb => by omega
  refine ⟨a1.trans K (fun b hb e => by omega), a2.keep K (low _ (by omega)), a3.keep K (low _ (by omega)), ⟨vo, a4.keep K (low _ (by omega)), a5.keep K (fun g hg => low _ (a6 g hg)) (fun b hb _ => low b hb.2), a6⟩, ⟨v', ?_, ?_⟩, l1⟩
  · exact ((hv.keep kk (fun h => h)).keep k3 nvg).set_ 2 v'
  · have hw3 : OFs w3 B (fun b => B ≤ b) v' (bl ++ [bs]) := by
      refine OFs.push (w1 := w2') (vs := vs0) (v := v) (fun j u bs hu hb => (hv0 j u bs hu hb).nil kk) (by simpa using ho.1) (hb2.mono (fun b hb _ => by omega)) ho3 k3 (fun x hx cs fr hc => ?_)
      obtain ⟨cur, hc2⟩ := own_blk ho hx
      have h1 := hc2.keep kk (fun h => h)
      unfold Blk at h1
      rw [hc] at h1
      injection h1 with h1
      injection h1 with _ h1
      exact absurd h1 (by decide)
    obtain ⟨vs1, o1, o2⟩ := hw3.out
    have h3 := (hv.keep kk (fun h => h)).keep k3 nvg
    refine ⟨vs1, own_keep o1 ((Keep.refl (fun b => b = B) w3).setCell (p := ⟨B, 2, none⟩) (fun _ => rfl) _) (fun x hx e => nvg' (by rw [← show x = B from e]; exact hx)), fun j u bs hu hb => ?_⟩
    refine (o2 j u bs hu hb).far (g := B) ((Keep.refl (fun b => b = B) w3).setCell (p := ⟨B, 2, none⟩) (fun _ => rfl) _) (fun cs fr hc => ?_)
    unfold Blk at h3
    rw [hc] at h3
    injection h3 with h3
    injection h3 with _ h3
    exact absurd h3 (by decide)
/-- The file lies in the row. -/
theorem CoIn.done {w wr w2 w3 : World} {B : Nat} {block : Int} {sv v v' : Value} {done : List (ByteArray × AFile)} {f : ByteArray × AFile} {rv : Value} {rs : List Value}
    (h : CoIn w wr B block sv done f.1 f.2.done f.2.blocks) (hof : FsAt wr (fun b => w.heap.size ≤ b) rv f.2.blocks)
    (hv : Blk wr (w.heap.size + 2) 28 #[.int .i64 block, v]) (hrl : rs.length = done.length) (ho : wr.ownsRow (w.heap.size + 3) 55 3 v done.length (fileCells done rs))
    (hve : ∀ (j : Nat) (r : Value) (f : ByteArray × AFile), rs[j]? = some r → done[j]? = some f → FsAt wr (fun b => w.heap.size ≤ b) r f.2.blocks) (ka : Keep Nil wr w2)
    (ho1 : w3.ownsRow (w.heap.size + 3) 55 3 v' (done.length + 1) (fileCells done rs ++ [.string f.1, .bool f.2.done, rv])) (k1 : Keep (fun b => v.ownBlock = some b) w2 w3) (hv1 : v'.ownBlock = v.ownBlock ∨ v'.ownBlock = some w2.heap.size) :
    WoInv w (w3.setCell ⟨w.heap.size + 2, 1, none⟩ v') (w.heap.size + 3) (fun _ => False) block sv (done ++ [f]) := by
  have hw : WoInv w wr (w.heap.size + 3) (fun _ => False) block sv done := ⟨h.keep, h.st, h.res, v, hv, ⟨rs, hrl, ho, fun j r f hr hf => (hve j r f hr hf).mono (fun b hb _ => .inr hb)⟩⟩
  exact WoInv.push (by omega) hw hv hrl ho (fun j r f hr hf => (hve j r f hr hf).mono (fun b hb _ => .inr hb)) (hof.mono (fun b hb _ => .inr hb)) ka ho1 k1 hv1
/-- What stands of Copy. -/
def CopyPost (w : World) (block : Int) (fs : List (ByteArray × AFile)) (e : Ending) (w' : World) : Prop :=
  ∃ v, e = .returned v ∧ StAt w' (fun b => w.heap.size ≤ b) v block fs ∧ Keep Nil w w'
set_option maxRecDepth 100000 in
set_option maxHeartbeats 4000000 in
theorem copy_any (H : Nat → Prop) (v : Value) (block : Int) (fs : List (ByteArray × AFile)) (w : World) (hs : StAt w H v block fs) (h8 : Bytes fs) (hl : Few fs) :
    Calls Tryz.prog 58 #[v] w (CopyPost w block fs) := by
  obtain ⟨u, rfl, hf⟩ := hs.out
  obtain ⟨A, c, rfl⟩ := hf.form
  have HFL := Hid.intro_ hf
  have H8 := Hid.intro_ h8
  have HL := Hid.intro_ hl
  have hln := hl.1
  have hI0 : Hid (WoInv w (((w.alloc (.cells #[.int .i64 block, .slice A fs.length c] 28)).alloc (.cells #[.int .i64 0, .slice none 0 0] 28)).alloc (.cells #[.int .i64 block, .slice none 0 0] 28)) (w.heap.size + 3) (fun _ => False) block (.slice A fs.length c) (fs.take 0)) :=
    ⟨(((Keep.refl Nil w).alloc _).alloc _).alloc _, ((Blk.new w _ _).alloc _).alloc _, (Blk.new_at _ _ _ (by simp)).alloc _, _, Blk.new_at _ _ _ (by simp), OFl.nil_ _ _ _⟩
  clear hs hf h8 hl
  go_enter Tryz.func58, Tryz.ntmps58
  go_wp2
  go_loopw [4] (fun j wr => ∃ k : Nat, k ≤ fs.length ∧ j = .int .i64 k ∧ Hid (WoInv w wr (w.heap.size + 3) (fun _ => False) block (.slice A fs.length c) (fs.take k))) (fun j _ => fs.length - (intOf j).toNat)
  case atStart => exact ⟨0, Nat.zero_le _, rfl, hI0⟩
  case round =>
    obtain ⟨k, hk, rfl, HI⟩ := hrel
    obtain ⟨kk, b1, b0, vo, b2, hofl⟩ := HI.out
    have x0 : wr.cell? ⟨w.heap.size, 0, none⟩ = some (.int .i64 block) := b1.at_ 0
    have x1 : wr.cell? ⟨w.heap.size, 1, none⟩ = some (.slice A fs.length c) := b1.at_ 1
    by_cases hlt : k < fs.length
    · obtain ⟨f, hf'⟩ : ∃ f', fs[k]? = some f' := ⟨_, List.getElem?_eq_getElem hlt⟩
      obtain ⟨g, o, Ar, cr, rfl, p0, p1, p2, hfs⟩ := (HFL.out.nil kk).get hf'
      have lg := cell_lt p0
      have hk0 : 0 ≤ (k : Int) := by omega
      have hk1 : (k : Int) < (fs.length : Int) := by omega
      have hin : Hid (CoIn w (wr.drew.alloc (.cells #[.string f.1, .bool f.2.done, .slice none 0 0] 55)) wr.heap.size block (.slice (some ⟨g, o, none⟩) fs.length c) (fs.take k) f.1 f.2.done (f.2.blocks.take 0)) := by
        have ka := (Keep.refl Nil wr).drew.alloc (.cells #[.string f.1, .bool f.2.done, .slice none 0 0] 55)
        refine ⟨kk.then_ ka, b1.keep ka (fun h => h), b0.keep ka (fun h => h), ⟨vo, b2.keep ka (fun h => h), (hofl.mono (fun b hb hlt => ⟨hb.elim (fun h => h.elim) id, hlt⟩)).nil ka, fun g hg => ?_⟩, ⟨_, Blk.new wr.drew _ _, OFs.nil_ _ _ _⟩, b2.lt⟩
        obtain ⟨_, _, ho, _⟩ := hofl.out
        obtain ⟨cur, hc⟩ := own_blk ho hg
        exact lt_of_heap hc
      have KK := Hid.intro_ kk
      have HFS := Hid.intro_ hfs
      have HF := Hid.intro_ hf'
      have P0 := Hid.intro_ p0
      have P1 := Hid.intro_ p1
      have P2 := Hid.intro_ p2
      have HLF := HL.out.2 f (List.mem_of_getElem? hf')
      clear hf' hfs hofl b0 b1 b2 kk
      obtain ⟨wo, rfl⟩ : ∃ x : World, x = wr := ⟨_, rfl⟩
      go_wp2_with fail
      go_region_held3 (fun w' => w'.cell? ⟨w.heap.size, 1, none⟩ = some (.slice (some ⟨g, o, none⟩) fs.length c) ∧ w'.cell? ⟨g, o + k * 3, none⟩ = some (.string f.1) ∧ w'.cell? ⟨g, o + k * 3 + 1, none⟩ = some (.bool f.2.done))
        (first | exact ⟨x1, p0, p1⟩ | go_keep)
        ((first | fail))
      go_wp2_with fail
      go_loopw [6] (fun j wi => ∃ m : Nat, m ≤ f.2.blocks.length ∧ j = .int .i64 m ∧ Hid (CoIn w wi wo.heap.size block (.slice (some ⟨g, o, none⟩) fs.length c) (fs.take k) f.1 f.2.done (f.2.blocks.take m))) (fun j _ => f.2.blocks.length - (intOf j).toNat)
      case atStart => exact ⟨0, Nat.zero_le _, rfl, hin⟩
      case round =>
        obtain ⟨m, hm, rfl, HIN⟩ := hrel
        have kx := HIN.out.keep
        have x1 : wr.cell? ⟨w.heap.size, 1, none⟩ = some (.slice (some ⟨g, o, none⟩) fs.length c) := HIN.out.st.at_ 1
        obtain ⟨g2, o2, Ar2, cr2, e2, q0, q1, q2, hfs2⟩ := (HFL.out.nil kx).get HF.out
        injection e2 with e2
        injection e2 with e2 e3
        subst e2 e3
        by_cases hmt : m < f.2.blocks.length
        · obtain ⟨bs, hbs⟩ : ∃ bs, f.2.blocks[m]? = some bs := ⟨_, List.getElem?_eq_getElem hmt⟩
          obtain ⟨A5, c5, vs, e5, hvl, hvr, hvi, hvt, hvb⟩ := hfs2.out
          injection e5 with e6 e7 e8
          subst e6 e8
          obtain ⟨u, hu⟩ : ∃ u, vs[m]? = some u := ⟨_, List.getElem?_eq_getElem (by omega)⟩
          have hbu := hvb m u bs hu hbs
          obtain ⟨⟨ga2, oa2, sa2⟩, rfl, p4⟩ := hvr m u hu
          obtain rfl : sa2 = none := (hvi _ rfl).3
          rw [add_at] at p4
          have h8b := H8.out f (List.mem_of_getElem? HF.out) bs (List.mem_of_getElem? hbs)
          have cv1 : (convert 161 9 u).run Tryz.prog wr.drew = .ok (.string ⟨(toB bs).toArray⟩) wr.drew := conv_any hbu h8b 1
          have hsz : (⟨(toB bs).toArray⟩ : ByteArray).size = bs.length := by
            show (toB bs).toArray.size = _
            simp [toB_len]
          have cv2 : ∀ w : World, (convert 9 161 (.string ⟨(toB bs).toArray⟩)).run Tryz.prog w = .ok (.slice (some ⟨w.heap.size, 0, none⟩) bs.length (grownCap w bs.length 0 5))
              (w.drew.alloc (.cells (bytesRow ⟨(toB bs).toArray⟩ (grownCap w bs.length 0 5)) 5 ((bytesRow ⟨(toB bs).toArray⟩ (grownCap w bs.length 0 5)).size, (bytesRow ⟨(toB bs).toArray⟩ (grownCap w bs.length 0 5)).size + 1))) := fun w => by
            have := run_bytes_of_string (P := Tryz.prog) w 9 161 5 ⟨(toB bs).toArray⟩ Tryz.underlying9 Tryz.underlying161 Tryz.underlying5
            rw [hsz] at this
            exact this
          obtain ⟨v, hv, hof⟩ := HIN.out.file
          obtain ⟨vs0, ho0, hv0⟩ := hof.out
          have hml : (f.2.blocks.take m).length = m := by rw [List.length_take]; omega
          rw [hml] at ho0
          have hvo : v.oneCell' = true := by rcases ho0.2 with ⟨e, _⟩ | ⟨_, _, _, e, _⟩ <;> rw [e] <;> rfl
          have cv : wr.cell? ⟨wo.heap.size, 2, none⟩ = some v := hv.at_ 2
          have hvl0 : vs0.length = m := by simpa using ho0.1
          have nvg : ¬ v.ownBlock = some wo.heap.size := fun e => by
            obtain ⟨cur, hc⟩ := own_blk ho0 e
            exact Blk.ne_ hv hc (by decide) rfl
          have HO := Hid.intro_ ho0
          have HV0 := Hid.intro_ hv0
          have HVV := Hid.intro_ hv
          have HBS := Hid.intro_ hbs
          have H8B := Hid.intro_ h8b
          have hml2 := Hid.intro_ hml
          have hk0 : 0 ≤ (k : Int) := by omega
          have hk1 : (k : Int) < (fs.length : Int) := by omega
          have hm0 : 0 ≤ (m : Int) := by omega
          have hm1 : (m : Int) < (f.2.blocks.length : Int) := by omega
          have hm40 : m ≤ 1099511627776 := by omega
          have lB := hv.lt
          obtain ⟨i1, hi1, hy0, hy1, hy2⟩ := info_parts info_bytes
          clear ho0 hv0 hml hof hbs hu hbu hfs2 hvl hvr hvi hvt hvb h8b hv
          go_wp2_with fail
          go_region_law (refine step_append_own rfl (.tmp 42) (.tmp 54) 53 rfl wo.heap.size 161 i1 (.slice none 0 0) 1 24 Tryz.underlying53 hi1 hy0 hy1 hy2 rfl (by decide) v m vs0 (by simp [Act.eval]) (own_keep HO.out (((Keep.refl Nil wr).drew.drew.alloc _).alloc _) (fun g _ h => h)) ⟨wr.heap.size + 1, 0, none⟩ 1 1 [.slice (some ⟨wr.heap.size, 0, none⟩) bs.length (grownCap wr.drew bs.length 0 5)] (by simp [Act.eval]) rfl (news_new (by simp)) (by simp [Value.oneCell']) (by unfold maxLen; omega) (by omega) (by simp at *; omega) ?_; intro av cv3 w3 ho3 k3 hv3
                         have b3 := (((HVV.out.drew.drew).alloc (.cells (bytesRow ⟨(toB bs).toArray⟩ (grownCap wr.drew bs.length 0 5)) 5 ((bytesRow ⟨(toB bs).toArray⟩ (grownCap wr.drew bs.length 0 5)).size, (bytesRow ⟨(toB bs).toArray⟩ (grownCap wr.drew bs.length 0 5)).size + 1))).alloc (.cells #[.slice (some ⟨wr.heap.size, 0, none⟩) bs.length (grownCap wr.drew bs.length 0 5)] 161)).keep k3 nvg
                         have x3 : w3.cell? ⟨wo.heap.size, 2, none⟩ = some v := b3.at_ 2
                         have y3 := b3.fr 2)
          all_goals
            have hfin : Hid (CoIn w (w3.setCell ⟨wo.heap.size, 2, none⟩ (.slice av (m + 1) cv3)) wo.heap.size block (.slice (some ⟨g, o, none⟩) fs.length c) (fs.take k) f.1 f.2.done (f.2.blocks.take (m + 1))) := by
              have htk : f.2.blocks.take (m + 1) = f.2.blocks.take m ++ [bs] := by rw [List.take_add_one, HBS.out]; rfl
              rw [htk]
              exact CoIn.push HIN.out HVV.out (by rw [hml2.out]; exact HO.out) HV0.out (((Keep.refl Nil wr).drew.drew.alloc _).alloc _) (((bytes_new wr.drew.drew bs H8B.out _ (grownCap_ge _ _ _ _) _).nil ((Keep.refl Nil _).alloc _)).mono (fun b hb _ => Nat.le_of_eq hb.symm)) (by rw [hml2.out]; exact ho3.out) k3 (by simpa using hv3.out)
            go_wp2
            go_roundw
            case rel => exact ⟨m + 1, by omega, by go_num, hfin⟩
            case measure => simp [intOf]; omega
        · obtain rfl : m = f.2.blocks.length := by omega
          obtain ⟨v, hv, hof⟩ := HIN.out.file
          obtain ⟨vo2, hvo2, hofl2, hlt2⟩ := HIN.out.out
          obtain ⟨rs, hrl, ho0, hve⟩ := hofl2.out
          have z0 : wr.cell? ⟨wo.heap.size, 0, none⟩ = some (.string f.1) := hv.at_ 0
          have z1 : wr.cell? ⟨wo.heap.size, 1, none⟩ = some (.bool f.2.done) := hv.at_ 1
          have z2 : wr.cell? ⟨wo.heap.size, 2, none⟩ = some v := hv.at_ 2
          have y0 : wr.cell? ⟨w.heap.size + 2, 0, none⟩ = some (.int .i64 block) := hvo2.at_ 0
          have y1 : wr.cell? ⟨w.heap.size + 2, 1, none⟩ = some vo2 := hvo2.at_ 1
          have hvo : vo2.oneCell' = true := by rcases ho0.2 with ⟨e, _⟩ | ⟨_, _, _, e, _⟩ <;> rw [e] <;> rfl
          have hvv : v.oneCell' = true := by
            obtain ⟨vs9, h9, _⟩ := hof.out
            rcases h9.2 with ⟨e, _⟩ | ⟨_, _, _, e, _⟩ <;> rw [e] <;> rfl
          have n2 : ¬ vo2.ownBlock = some (w.heap.size + 2) := fun e => by
            obtain ⟨cur, hc⟩ := own_blk ho0 e
            exact Blk.ne_ hvo2 hc (by decide) rfl
          obtain ⟨i2, hi2, hz0, hz1, hz2⟩ := info_parts info_file
          have hkl : (fs.take k).length = k := by rw [List.length_take]; omega
          rw [hkl] at ho0
          have l2 := hvo2.lt
          have HO := Hid.intro_ ho0
          have HVE := Hid.intro_ hve
          have HVO := Hid.intro_ hvo2
          have HKL := Hid.intro_ hkl
          have HV := Hid.intro_ hv
          have HOF := Hid.intro_ hof
          have hk40 : k ≤ 1099511627776 := by omega
          clear hofl2 hof hve ho0 hkl hv hvo2
          go_wp2_with (at_builtin; refine wpList_append_own_at _ rfl (.tmp 58) (.tmp 60) 26 rfl (w.heap.size + 3) 55 i2 (.agg #[.string ⟨#[]⟩, .bool false, .slice none 0 0]) 3 48 Tryz.underlying26 hi2 hz0 hz1 hz2 rfl (by decide) vo2 k (fileCells (fs.take k) rs) (by simp [Act.eval]) (own_keep HO.out ((Keep.refl Nil wr).alloc _) (fun g _ h => h)) ⟨wr.heap.size, 0, none⟩ 1 1 [.string f.1, .bool f.2.done, v] (by simp [Act.eval]) rfl (news_new rfl) (fun x hx => by simp only [List.mem_cons, List.not_mem_nil, or_false] at hx; rcases hx with rfl | rfl | rfl <;> first | rfl | exact hvv) (by unfold maxLen; omega) (by omega) (by simp at *; omega) ?_; intro s1 w3 ho3 k3 _ hs1
                       obtain ⟨av, cv3, rfl⟩ := own_form ho3
                       have b3 := (HVO.out.alloc (.cells #[.string f.1, .bool f.2.done, v] 55)).keep (Keep.of_grown k3) n2
                       have x3 : w3.cell? ⟨w.heap.size + 2, 1, none⟩ = some vo2 := b3.at_ 1
                       have y3 := b3.fr 1)
          have hfin : Hid (WoInv w (w3.setCell ⟨w.heap.size + 2, 1, none⟩ (.slice av (k + 1) cv3)) (w.heap.size + 3) (fun _ => False) block (.slice (some ⟨g, o, none⟩) fs.length c) (fs.take (k + 1))) := by
            have htk : fs.take (k + 1) = fs.take k ++ [f] := by rw [List.take_add_one, HF.out]; rfl
            have hI := HIN.out
            rw [List.take_length] at hI
            have hofs := HOF.out
            rw [List.take_length] at hofs
            rw [htk]
            refine CoIn.done hI (hofs.fs (fun g' hg' => by obtain ⟨_, ho9, _⟩ := hofs.out; exact own_base ho9 hg') |>.mono (fun b hb _ => ?_)) HVO.out hrl (by rw [HKL.out]; exact HO.out) (fun j r f hr hf => (HVE.out j r f hr hf).mono (fun b hb _ => hb.1)) ((Keep.refl Nil wr).alloc _) (by rw [HKL.out]; exact ho3) (Keep.of_grown k3) hs1
            have := hI.lt
            omega
          go_wp2
          go_roundw
          case rel => exact ⟨k + 1, by omega, by go_num, hfin⟩
          case measure => simp [intOf]; omega
    · obtain rfl : k = fs.length := by omega
      obtain ⟨rs, hrl, ho0, hve⟩ := hofl.out
      have hln2 : (fs.take fs.length).length = fs.length := by simp
      obtain ⟨Av, cv, rfl⟩ := own_form ho0
      rw [hln2] at ho0
      have y0 : wr.cell? ⟨w.heap.size + 2, 0, none⟩ = some (.int .i64 block) := b2.at_ 0
      have y1 : wr.cell? ⟨w.heap.size + 2, 1, none⟩ = some (.slice Av fs.length cv) := by rw [← hln2]; exact b2.at_ 1
      have z0 : wr.cell? ⟨w.heap.size + 1, 0, none⟩ = some (.int .i64 0) := b0.at_ 0
      have z1 : wr.cell? ⟨w.heap.size + 1, 1, none⟩ = some (.slice none 0 0) := b0.at_ 1
      have f0 := b0.fr 0
      have f1 := b0.fr 1
      have hfl : Hid (FlAt wr (fun b => w.heap.size ≤ b) (.slice Av fs.length cv) fs) := by
        rw [List.take_length] at hofl
        have h9 := (hofl.mono (H' := fun b => w.heap.size ≤ b) (fun b hb _ => hb.elim (fun h => h.elim) id))
        exact h9.fl (fun g hg => by obtain ⟨_, _, ho, _⟩ := h9.out; have := own_base ho hg; omega)
      have B0 := Hid.intro_ b0
      have KK := Hid.intro_ kk
      clear b0 b1 b2 ho0 hrl hofl hve
      go_wp2
      refine bodyPost_ret (v := .agg #[.int .i64 block, .slice Av fs.length cv]) (by simp [results, Tryz.results58, go_sem, z0, z1]) rfl ?_
      have ks := ((Keep.refl (fun b => b = w.heap.size + 1) wr).setCell (p := ⟨w.heap.size + 1, 0, none⟩) (fun _ => rfl) (.int .i64 block)).setCell (p := ⟨w.heap.size + 1, 1, none⟩) (fun _ => rfl) (.slice Av fs.length cv)
      refine ⟨_, rfl, ⟨_, rfl, hfl.out.far (g := w.heap.size + 1) ks (fun cs t fr hc => ?_)⟩, KK.out.trans ks (fun b hb e => by have : b = w.heap.size + 1 := e; omega)⟩
      have hb := B0.out
      unfold Blk at hb
      rw [hc] at hb
      injection hb with hb
      injection hb with _ hb
      subst hb
      exact ⟨by decide, by decide, by decide⟩
end Go.Proofs.YtadipinnbehhhaaGreatDoor
namespace Go.Proofs.YtadipinnbehhhaaGreatDoor
open Go.RowKit

/-- How many blocks hold n records, F in each. -/
def nblk (F n : Nat) : Nat := (n + F - 1) / F
/-- Records number k·F on, F of them. -/
def chunk (F k : Nat) (l : List R4) : List R4 := (l.drop (k * F)).take F
/-- Records as blocks. -/
def blocksB (kind : Nat) (l : List R4) (block : Nat) : List (List Int) := (List.range (nblk (block / 32 - 1) l.length)).map fun k => encB kind k (chunk (block / 32 - 1) k l) block
theorem nblk_lt {F n k : Nat} (hF : 0 < F) : k < nblk F n ↔ k * F < n := by
  unfold nblk
  rw [Nat.lt_iff_add_one_le, Nat.le_div_iff_mul_le hF, Nat.add_mul]
  omega
theorem chunk_len (F k : Nat) (l : List R4) : (chunk F k l).length = min F (l.length - k * F) := by simp [chunk]
theorem rcCells_app' (a b : List R4) : rcCells (a ++ b) = rcCells a ++ rcCells b := by simp [rcCells]
theorem rcCells_len' : ∀ l : List R4, (rcCells l).length = l.length * 4
  | [] => rfl
  | r :: l => by
    have e : rcCells (r :: l) = (r.ws.map fun (x : Nat) => Value.int .u64 x) ++ rcCells l := rfl
    rw [e, List.length_append, rcCells_len' l]
    simp [R4.ws]; omega
theorem chunk_cells (F k : Nat) (l : List R4) (j : Nat) (u : Value) (hk : k * F ≤ l.length) (h : (rcCells (chunk F k l))[j]? = some u) : (rcCells l)[k * F * 4 + j]? = some u := by
  have e : l = l.take (k * F) ++ (chunk F k l ++ (l.drop (k * F)).drop F) := by unfold chunk; rw [List.take_append_drop, List.take_append_drop]
  have hl : (rcCells (l.take (k * F))).length = k * F * 4 := by rw [rcCells_len', List.length_take, Nat.min_eq_left hk]
  rw [e, rcCells_app', List.getElem?_append_right (by rw [hl]; omega), hl, Nat.add_sub_cancel_left, rcCells_app', List.getElem?_append_left (List.getElem?_eq_some_iff.1 h).1]
  exact h
/-- What stands of Blocks. -/
def BlocksPost (w : World) (f : List (List Int)) (e : Ending) (w' : World) : Prop :=
  ∃ v, e = .returned v ∧ FsAt w' (fun b => w.heap.size ≤ b) v f ∧ Keep Nil w w'
/-- A row of one's own of slices: one more behind a quiet piece. -/
theorem OFs.step {w wr w2 w3 : World} {v v' u : Value} {f : List (List Int)} {bs : List Int} {vs : List Value} (hv : ∀ (j : Nat) (u : Value) (bs : List Int), vs[j]? = some u → f[j]? = some bs → BsAt wr (fun b => w.heap.size ≤ b) u bs)
    (ho : wr.ownsRow w.heap.size 161 1 v f.length vs) (kk : Keep Nil wr w2) (hb : BsAt w2 (fun b => w.heap.size ≤ b) u bs) (ho3 : w3.ownsRow w.heap.size 161 1 v' (f.length + 1) (vs ++ [u])) (k3 : Keep (fun b => v.ownBlock = some b) w2 w3) :
    OFs w3 w.heap.size (fun b => w.heap.size ≤ b) v' (f ++ [bs]) := by
  refine OFs.push (w1 := w2) (vs := vs) (v := v) (fun j u bs hu hb => (hv j u bs hu hb).nil kk) (by simpa using ho.1) hb ho3 k3 (fun x hx cs fr hc => ?_)
  obtain ⟨cur, hc2⟩ := own_blk ho hx
  have h1 := hc2.keep kk (fun h => h)
  unfold Blk at h1
  rw [hc] at h1
  injection h1 with h1
  injection h1 with _ h1
  exact absurd h1 (by decide)
set_option maxRecDepth 100000 in
set_option maxHeartbeats 2000000 in
theorem blocks_any (kind block : Nat) (A : Option Addr) (lc : Nat) (l : List R4) (w : World) (hk : 1 ≤ kind ∧ kind ≤ 255) (hb : 64 ≤ block ∧ block ≤ 65536 ∧ block % 32 = 0) (hl : l.length ≤ lc ∧ l.length ≤ 1099511627776)
    (hc : Rd w A (rcCells l)) (hA : ∀ a, A = some a → a.spot = none) (hr : ∀ r ∈ l, r.Ok) :
    Calls Tryz.prog 76 #[.int .i64 kind, .slice A l.length lc, .int .i64 block] w (BlocksPost w (blocksB kind l block)) := by
  have HC := Hid.intro_ hc
  have HR := Hid.intro_ hr
  have HA := Hid.intro_ hA
  have HB := Hid.intro_ hb
  obtain ⟨F, hF⟩ : ∃ F, F = block / 32 - 1 := ⟨_, rfl⟩
  have hF1 : 1 ≤ F ∧ F ≤ 2047 := by omega
  have hfit : fit block = (F : Int) := by
    unfold fit
    rw [if_neg (by omega)]; omega
  have hft := fun w => rfit_any block w
  rw [hfit] at hft
  have hbl : Hid (blocksB kind l block = (List.range (nblk F l.length)).map fun k => encB kind k (chunk F k l) block) := by unfold blocksB; rw [← hF]; exact Hid.intro_ rfl
  have HF := Hid.intro_ hF
  have hFi : (0 : Int) < (F : Int) := by omega
  clear hc hr hA hfit hF hb
  go_enter Tryz.func76, Tryz.ntmps76
  go_wp2_with (go_at_call 10; refine (hft _).mono ?_; rintro e w2 ⟨rfl, hw2⟩; obtain rfl := hw2.symm)
  go_loopw [8, 9] (fun q j wr => ∃ (k : Nat) (v : Value), k ≤ nblk F l.length ∧ v = q ∧ j = .int .i64 ((k * F : Nat) : Int) ∧ Hid (OFs wr w.heap.size (fun b => w.heap.size ≤ b) v ((blocksB kind l block).take k)) ∧ Keep Nil w wr) (fun _ j _ => l.length + F - (intOf j).toNat)
  case atStart => exact ⟨0, _, Nat.zero_le _, rfl, by simp, OFs.nil_ _ _ _, Keep.refl _ _⟩
  case round =>
    obtain ⟨k, v, hk2, rfl, rfl, HO, kwr⟩ := hrel
    by_cases hlt : k < nblk F l.length
    · have hlt2 := (nblk_lt hF1.1).1 hlt
      obtain ⟨K, hK⟩ : ∃ K, K = k * F := ⟨_, rfl⟩
      rw [← hK] at hlt2 ⊢
      have HK := Hid.intro_ hK
      obtain ⟨⟨g, o, sp⟩, rfl⟩ : ∃ a, A = some a := by
        cases A with
        | some a => exact ⟨a, rfl⟩
        | none =>
          obtain ⟨_, e, _⟩ := HC.out 0 ((rcCells l)[0]'(by rw [rcCells_len]; omega)) (List.getElem?_eq_getElem _)
          cases e
      obtain rfl : sp = none := HA.out _ rfl
      have hkK : k ≤ K := by rw [hK]; exact Nat.le_mul_of_pos_right _ hF1.1
      have hcl : (chunk F k l).length = min F (l.length - K) := by rw [chunk_len, ← hK]
      obtain ⟨n, hn⟩ : ∃ n, n = (chunk F k l).length := ⟨_, rfl⟩
      have hn1 : 1 ≤ n ∧ 32 * n + 32 ≤ block := by have := HB.out; have := HF.out; omega
      have hKn : K + n ≤ l.length := by omega
      have hcall : ∀ (wx : World) (lc' : Nat), Keep Nil wr wx → Calls Tryz.prog 152 #[.int .i64 kind, .int .i64 k, .slice (some ⟨g, o + K * 4, none⟩) n lc', .int .i64 block] wx fun e w' =>
          ∃ s, e = .returned (.tuple #[s, .int .i64 0]) ∧ w'.ownsRow wx.heap.size 5 1 s block (by8 (encB kind k (chunk F k l) block)) ∧ Keep Nil wx w' := fun wx lc' hwx => by
        rw [hn]
        refine rencode_good kind k block g (o + K * 4) lc' (chunk F k l) wx hk (by omega) HB.out (by omega) (by omega) (fun j u hu => ?_) (fun r hr => HR.out r (List.mem_of_mem_drop (List.mem_of_mem_take hr)))
        obtain ⟨ad, e, hcc⟩ := HC.out _ _ (chunk_cells F k l j u (by omega) hu)
        injection e with e
        subst e
        rw [add_at, ← hK, ← Nat.add_assoc] at hcc
        exact cell_keep hcc (kwr.then_ hwx) (fun h => h)
      have HCALL := Hid.intro_ hcall
      have hmn : Hid ((min ((K : Int) + (F : Int)) (l.length : Int)).toNat - K = n) := Hid.intro_ (by omega)
      obtain ⟨vs0, ho0, hv0⟩ := HO.out.out
      have hlk : ((blocksB kind l block).take k).length = k := by rw [List.length_take, hbl.out]; simp; omega
      rw [hlk] at ho0
      obtain ⟨Av, cv, rfl⟩ := own_form ho0
      have HV0 := Hid.intro_ hv0
      have HOO := Hid.intro_ ho0
      have HLK := Hid.intro_ hlk
      have HNN := Hid.intro_ hn
      clear hK hcall hv0 ho0 hlk hcl hn
      obtain ⟨i1, hi1, hy0, hy1, hy2⟩ := info_parts info_bytes
      have hk40 : k ≤ 1099511627776 := by omega
      have lw := kwr.size
      go_wp2_with (first
        | (go_at_call 152; rw [hmn.out]; refine (HCALL.out _ _ (Keep.refl _ _)).mono ?_; rintro e w2 ⟨s, rfl, hs2, k2⟩
           obtain ⟨As, cs, rfl⟩ := own_form hs2
           have lw2 := k2.size)
        | (at_builtin; go_loud (refine wpList_append_own_at _ rfl (.tmp 42) (.tmp 44) 53 rfl w.heap.size 161 i1 (.slice none 0 0) 1 24 Tryz.underlying53 hi1 hy0 hy1 hy2 rfl (by decide) (.slice Av k cv) k vs0 (by simp [Act.eval]) (own_keep HOO.out (k2.alloc _) (fun g _ h => h)) ⟨w2.heap.size, 0, none⟩ 1 1 [.slice As block cs] (by simp [Act.eval]) rfl (one_new _ _ _) (by simp [Value.oneCell']) (by unfold maxLen; omega) (by omega) (by simp at *; omega) ?_; intro v3 w3 ho3 k3 _ hv3)))
      have hfin : Hid (OFs w3 w.heap.size (fun b => w.heap.size ≤ b) v3 ((blocksB kind l block).take (k + 1))) := by
        have htk : (blocksB kind l block).take (k + 1) = (blocksB kind l block).take k ++ [encB kind k (chunk F k l) block] := by
          rw [List.take_add_one, hbl.out]
          congr 1
          rw [List.getElem?_map, List.getElem?_range hlt]
          rfl
        rw [htk]
        have hbs : BsAt w2 (fun b => w.heap.size ≤ b) (.slice As block cs) (encB kind k (chunk F k l) block) := BsAt.of_own hs2 (encB_len (by rw [← HNN.out]; exact hn1.2)) (fun g hg => by have := own_base hs2 hg; omega)
        exact OFs.step HV0.out (by rw [HLK.out]; exact HOO.out) (k2.alloc _) (hbs.nil ((Keep.refl Nil w2).alloc _)) (by rw [HLK.out]; exact ho3) (Keep.of_grown k3)
      have kfin : Hid (Keep Nil w w3) := by
        have := (kwr.then_ k2).alloc (.cells #[.slice As block cs] 161)
        exact this.trans (Keep.of_grown k3) (fun b hb e => by have := own_base HOO.out e; omega)
      have hnx : Hid (((k + 1) * F : Nat) = K + F) := by rw [Nat.add_mul, ← HK.out, Nat.one_mul]; exact Hid.intro_ rfl
      go_wp2
      go_roundw
      case rel => exact ⟨k + 1, _, by omega, rfl, by rw [hnx.out]; go_num, hfin, kfin.out⟩
      case measure => simp [intOf]; omega
    · obtain rfl : k = nblk F l.length := by omega
      have hge : ¬ (nblk F l.length * F < l.length) := fun h => by have := (nblk_lt hF1.1).2 h; omega
      obtain ⟨K, hK⟩ : ∃ K, K = nblk F l.length * F := ⟨_, rfl⟩
      rw [← hK] at hge ⊢
      have hfin : Hid (FsAt wr (fun b => w.heap.size ≤ b) v (blocksB kind l block)) := by
        have h := HO.out
        rw [show (blocksB kind l block).take (nblk F l.length) = blocksB kind l block by rw [List.take_of_length_le]; rw [hbl.out]; simp] at h
        exact h.fs (fun g hg => by obtain ⟨_, ho, _⟩ := h.out; exact own_base ho hg)
      clear hK
      go_wp2
      go_ret
      exact ⟨_, rfl, hfin.out, kwr⟩
set_option maxRecDepth 100000 in
set_option maxHeartbeats 2000000 in
/-- Records as a closed file. -/
theorem tape_any (s : ByteArray) (kind block : Nat) (A : Option Addr) (lc : Nat) (l : List R4) (w : World) (hk : 1 ≤ kind ∧ kind ≤ 255) (hb : 64 ≤ block ∧ block ≤ 65536 ∧ block % 32 = 0) (hl : l.length ≤ lc ∧ l.length ≤ 1099511627776)
    (hc : Rd w A (rcCells l)) (hA : ∀ a, A = some a → a.spot = none) (hr : ∀ r ∈ l, r.Ok) :
    Calls Tryz.prog 22 #[.string s, .int .i64 kind, .slice A l.length lc, .int .i64 block] w fun e w' => ∃ v, e = .returned (.agg #[.string s, .bool true, v]) ∧ FsAt w' (fun b => w.heap.size ≤ b) v (blocksB kind l block) ∧ Keep Nil w w' := by
  have HB := Hid.intro_ (blocks_any kind block A lc l (w.alloc (.cells #[.string ⟨#[]⟩, .bool false, .slice none 0 0] 55)) hk hb hl (hc.keep ((Keep.refl Nil w).alloc _) (fun _ _ _ h => h)) hA hr)
  clear hc hA hr
  go_enter Tryz.func22, Tryz.ntmps22
  have b0 := Blk.new w 55 #[.string ⟨#[]⟩, .bool false, .slice none 0 0]
  go_wp2_with (go_at_call 76; refine HB.out.mono ?_; rintro e w2 ⟨v, rfl, hfs, k2⟩
               have b2 := b0.keep k2 (fun h => h)
               have z0 : w2.cell? ⟨w.heap.size, 0, none⟩ = some (.string ⟨#[]⟩) := b2.at_ 0
               have z1 : w2.cell? ⟨w.heap.size, 1, none⟩ = some (.bool false) := b2.at_ 1
               have z2 : w2.cell? ⟨w.heap.size, 2, none⟩ = some (.slice none 0 0) := b2.at_ 2
               have f0 := b2.fr 0
               have f1 := b2.fr 1
               have f2 := b2.fr 2
               obtain ⟨Av, cv, vs, rfl, hfs2⟩ := hfs.out
               have HFS := Hid.intro_ hfs
               clear hfs hfs2)
  refine bodyPost_ret (v := .agg #[.string s, .bool true, .slice Av (blocksB kind l block).length cv]) (by simp [results, Tryz.results22, go_sem, z0, z1, z2]) rfl ?_
  have ks := (((Keep.refl (fun b => b = w.heap.size) w2).setCell (p := ⟨w.heap.size, 0, none⟩) (fun _ => rfl) (.string s)).setCell (p := ⟨w.heap.size, 1, none⟩) (fun _ => rfl) (.bool true)).setCell (p := ⟨w.heap.size, 2, none⟩) (fun _ => rfl) (.slice Av (blocksB kind l block).length cv)
  have hty : ∀ cs t fr, w2.heap[w.heap.size]? = some (.cells cs t fr) → t = 55 := fun cs t fr hc => by
    have hb := b2
    unfold Blk at hb
    rw [hc] at hb
    injection hb with hb
    injection hb with _ hb
  refine ⟨_, rfl, ((HFS.out.mono (fun b hb _ => by simp at hb; omega)).far (g := w.heap.size) ks (fun cs fr hc => absurd (hty cs _ fr hc) (by decide)) (fun cs fr hc => absurd (hty cs _ fr hc) (by decide))), ?_⟩
  exact (((Keep.refl Nil w).alloc _).then_ k2).trans ks (fun b hb e => by have : b = w.heap.size := e; omega)
end Go.Proofs.YtadipinnbehhhaaGreatDoor
namespace Go.Proofs.YtadipinnbehhhaaGreatDoor
open Go.RowKit

theorem rec_at {w : World} {g o : Nat} {l : List R4} (h : Rd w (some ⟨g, o, none⟩) (rcCells l)) {k : Nat} {q : R4} (hk : l[k]? = some q) :
    w.cell? ⟨g, o + k * 4, none⟩ = some (.int .u64 q.a) ∧ w.cell? ⟨g, o + k * 4 + 1, none⟩ = some (.int .u64 q.b) ∧ w.cell? ⟨g, o + k * 4 + 2, none⟩ = some (.int .u64 q.c) ∧ w.cell? ⟨g, o + k * 4 + 3, none⟩ = some (.int .u64 q.d) := by
  have key : ∀ j, j < 4 → w.cell? ⟨g, o + k * 4 + j, none⟩ = some (.int .u64 ((q.ws.getD j 0 : Nat) : Int)) := fun j hj => by
    obtain ⟨ad, e, hc⟩ := h _ _ (rc_at l k j q hk hj)
    injection e with e
    subst e
    rw [add_at, ← Nat.add_assoc] at hc
    exact hc
  exact ⟨key 0 (by omega), key 1 (by omega), key 2 (by omega), key 3 (by omega)⟩
end Go.Proofs.YtadipinnbehhhaaGreatDoor
