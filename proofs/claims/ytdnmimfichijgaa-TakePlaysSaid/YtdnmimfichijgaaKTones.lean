/- A take in memory; its line: the walk. -/
import Derived.Test.YtdnmimfichijgaaKNext
namespace Go.Proofs.Ytdnmimfichijgaa.KTones
open Go Go.RowKit Go.Proofs.Ytdnmimfichijgaa.KMod Go.Proofs.Ytdnmimfichijgaa.KTk Go.Proofs.Ytdnmimfichijgaa.KRead Go.Proofs.Ytdnmimfichijgaa.KCells Go.Proofs.Ytdnmimfichijgaa.KClone Go.Proofs.Ytdnmimfichijgaa.KDisk Go.Proofs.Ytdnmimfichijgaa.KNext Go.Proofs.Ytdnmimfichijgaa.Hp Go.Proofs.Ytdnmimfichijgaa.Rd Go.Proofs.Ytdnmimfichijgaa.Opn
set_option linter.unusedVariables false
set_option linter.unusedSimpArgs false

/-- The blocks of a take and its disk. -/
def XT (tb db wb : Nat) : Nat → Prop := fun b => b = tb ∨ b = db ∨ b = wb
/-- Where its lines may lie: in none of these, nor in those that Z names. -/
def AZ (Z : Nat → Prop) (tb db wb : Nat) : Nat → Prop := fun b => ¬ XT tb db wb b ∧ ¬ Z b
/-- A take lies in block tb. -/
structure TkR (Z : Nat → Prop) (w : World) (tb db wb : Nat) (t : Tk) : Prop where
  ex : ∃ vsl, w.heap[tb]? = some (.cells #[.iface 50 (.pointer (some ⟨db, 0, none⟩)), vsl, .int .i64 (t.s.at_ : Int), .int .i64 (t.edits : Int), .bool t.broken] 70 (0, 0)) ∧ VsR w (AZ Z tb db wb) vsl t.s.vs
  good : GoodT t

theorem TkR.fr {X Z : Nat → Prop} {w w' : World} {tb db wb : Nat} {t : Tk} (h : TkR Z w tb db wb t) (hf : Fr X w w') (hx : ∀ b, X b → (XT tb db wb b ∨ Z b) ∧ b ≠ tb) : TkR Z w' tb db wb t := by
  obtain ⟨vsl, h1, h2⟩ := h.ex
  exact ⟨⟨vsl, hf.row h1 (fun hb => (hx _ hb).2 rfl), h2.fr hf (fun b hb hx2 => (hx b hx2).1.elim hb.1 hb.2)⟩, h.good⟩
theorem TkR.grown {Z : Nat → Prop} {w w' : World} {tb db wb : Nat} {t : Tk} (h : TkR Z w tb db wb t) (hg : w.grownBy w' none) : TkR Z w' tb db wb t := h.fr (.none hg) (X := fun _ => False) (fun _ h => h.elim)

/-- The line that a take tells. -/
def lineT (t : Tk) : List Tone := if t.broken = true then [] else t.s.now
def lerrT (t : Tk) : Int := if t.broken = true then 9 else 0

set_option maxHeartbeats 2000000 in
set_option maxRecDepth 100000 in
theorem tones_calls (Z : Nat → Prop) (tb db wb : Nat) (t : Tk) (w : World) (h : TkR Z w tb db wb t) :
    Calls Try.prog 16 #[.pointer (some ⟨tb, 0, none⟩)] w fun e w' => ∃ v, e = .returned (.tuple #[v, .int .i64 (lerrT t)]) ∧ Hid (w'.ownsRow w.heap.size 38 5 v (lineT t).length (flC Tone.cells (lineT t))) ∧ Hid (w.grownBy w' none) := by
  obtain ⟨vsl, hst, vb, vc, us, rfl, hcap, hA, hul, hus, hut⟩ := h.ex
  have hgood := h.good
  clear h
  obtain ⟨⟨vs, at_⟩, ed, br⟩ := t
  simp only at hst hcap hul hus hut hgood ⊢
  have p1 := cell_of hst 1
  have p2 := cell_of hst 2
  have p4 := cell_of hst 4
  cases br with
  | true =>
    have HL : Hid (lineT ⟨⟨vs, at_⟩, ed, true⟩ = []) := rfl
    have HE : Hid (lerrT ⟨⟨vs, at_⟩, ed, true⟩ = 9) := rfl
    clear hgood hut hus hul hst
    go_enter Try.func16, Try.ntmps16
    go_wp2_with fail
    go_ret2
    refine ⟨_, by rw [HE.out]; rfl, ?_, grown_refl _ _⟩
    rw [HL.out]
    exact World.ownsRow_nil _ _ _ _
  | false =>
    have hat : at_ < vs.length := hgood.s.at_
    obtain ⟨now, hnow⟩ : ∃ now, (Ver.mk vs at_).now = now := ⟨_, rfl⟩
    have hna : vs[at_]? = some now := by rw [← hnow]; exact hgood.s.now_at
    have hbig := hgood.s.big now (by rw [← hnow]; exact hgood.s.now_mem)
    have HL : Hid (lineT ⟨⟨vs, at_⟩, ed, false⟩ = now) := hnow
    have HE : Hid (lerrT ⟨⟨vs, at_⟩, ed, false⟩ = 0) := rfl
    obtain ⟨u0, hu0⟩ : ∃ u, us[at_]? = some u := ⟨us[at_]'(by rw [hul]; exact hat), List.getElem?_eq_getElem _⟩
    have htos := hut at_ u0 now hu0 hna
    have hc0 := hus at_ u0 hu0
    obtain ⟨ao, c, rfl⟩ := sla_open htos
    have HT := Lib.hid htos
    obtain ⟨n, hn⟩ : ∃ n, vs.length = n := ⟨_, rfl⟩
    rw [hn] at hat p1
    have hat2 : (at_ : Int) < (n : Int) := by omega
    clear hgood hut hus hul hst hna htos hnow hu0 hcap hA hn
    obtain ⟨q, hq⟩ : ∃ q, now.length = q := ⟨_, rfl⟩
    have HQ := Lib.hid hq
    simp only [hq] at hc0 HT hbig
    clear hq
    have WC := Lib.hid (fun (w' : World) (h1 : w.grownBy w' none) => clone_calls ao c now w' (by rw [HQ.out]; exact (HT.out.tos.grown h1)) (by rw [HQ.out]; omega))
    simp only [HQ.out] at WC
    go_enter Try.func16, Try.ntmps16
    go_wp2_with fail
    have hne := Mixed.Later.nonempty w
    have k1 : ∀ n2 : Mixed.Later w, n2.w.cell? ⟨tb, 1, none⟩ = some (.slice (some ⟨vb, 0, none⟩) n vc) := Mixed.Later.cell p1
    have k2 : ∀ n2 : Mixed.Later w, n2.w.cell? ⟨tb, 2, none⟩ = some (.int .i64 (at_ : Int)) := Mixed.Later.cell p2
    have k3 : ∀ n2 : Mixed.Later w, n2.w.cell? ⟨vb, at_, none⟩ = some (.slice ao q c) := Mixed.Later.cell hc0
    clear p1 p2 p4 hc0
    refine Mixed.wp_region_mixed (Mixed.late w) (fun k => k == 10) (by kernel_rfl) (by kernel_rfl) (Mixed.late_of (grown_drew (grown_refl _ _))) ?_
    unfold Mixed.late
    refine Mixed.wpM_quiet rfl rfl rfl ?_; intro Kx hKx; go_big_quiet_op; go_big_quiet_on
    refine wpM_nc rfl rfl _ ⟨tb, 0, none⟩ rfl rfl ?_; go_simp
    refine Mixed.wpM_quiet rfl rfl rfl ?_; intro Kx hKx; go_big_quiet_op; go_big_quiet_on
    refine Mixed.wpM_quiet rfl rfl rfl ?_; intro Kx hKx; go_big_quiet_op; go_big_quiet_on
    refine Mixed.wpM_quiet rfl rfl rfl ?_; intro Kx hKx; go_big_quiet_op; go_big_quiet_on
    refine wpM_nc rfl rfl _ ⟨tb, 0, none⟩ rfl rfl ?_; go_simp
    refine Mixed.wpM_quiet rfl rfl rfl ?_; intro Kx hKx; go_big_quiet_op; go_big_quiet_on
    refine Mixed.wpM_quiet rfl rfl rfl ?_; intro Kx hKx; go_big_quiet_op; go_big_quiet_on
    refine Mixed.wpM_quiet rfl rfl rfl ?_; intro Kx hKx; go_big_quiet_op; go_big_quiet_on
    refine Mixed.wpM_quiet rfl rfl rfl ?_; intro Kx hKx; go_big_quiet_op; go_big_quiet_on
    refine Mixed.wpM_call rfl rfl 27 _ (by go_simp; rfl) ?_
    refine (WC.out _ (grown_drew (grown_refl _ _))).mono ?_
    rintro ez w5 ⟨v5, rfl, ho5, hg5⟩
    have HG5 : Hid (w.grownBy w5 none) := grown_trans (grown_drew (grown_refl _ _)) hg5.out
    have HO5 : Hid (w5.ownsRow w.heap.size 38 5 v5 q (flC Tone.cells now)) := ho5.out
    refine ⟨_, rfl, ⟨⟨w5, HG5.out⟩, rfl⟩, ?_⟩
    clear hg5 ho5
    go_simp
    refine Mixed.wpM_quiet rfl rfl rfl ?_; intro Kx hKx; go_big_quiet_op; go_big_quiet_on
    refine Mixed.wpM_quiet rfl rfl rfl ?_; intro Kx hKx; go_big_quiet_op; go_big_quiet_on
    refine Mixed.wpM_nil ?_
    intro nx hnx
    clear nx hnx k1 k2 k3 hne
    go_wp2_with fail
    go_ret2
    refine ⟨_, by rw [HE.out]; rfl, ?_, HG5.out⟩
    rw [HL.out, HQ.out]
    exact HO5.out
end Go.Proofs.Ytdnmimfichijgaa.KTones
