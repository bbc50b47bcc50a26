/- An edit is done: the walk. -/
import Derived.Test.YtdnmimfichijgaaKTones
namespace Go.Proofs.Ytdnmimfichijgaa.KDo
open Go Go.RowKit Go.Proofs.Ytdnmimfichijgaa.KMod Go.Proofs.Ytdnmimfichijgaa.KTk Go.Proofs.Ytdnmimfichijgaa.KRead Go.Proofs.Ytdnmimfichijgaa.KCells Go.Proofs.Ytdnmimfichijgaa.KDisk Go.Proofs.Ytdnmimfichijgaa.KNext Go.Proofs.Ytdnmimfichijgaa.KTones Go.Proofs.Ytdnmimfichijgaa.Hp Go.Proofs.Ytdnmimfichijgaa.Rd Go.Proofs.Ytdnmimfichijgaa.Opn
set_option linter.unusedVariables false
set_option linter.unusedSimpArgs false

/-- A take on a disk. -/
structure TD (Z : Nat → Prop) (w : World) (tb db wb : Nat) (sa : Option Addr) (cap : Nat) (t : Tk) (d : Dk) : Prop where
  t : TkR Z w tb db wb t
  d : DkR w db wb sa cap d
  ne : tb ≠ db ∧ tb ≠ wb
  lt : tb < w.heap.size
  hz : ∀ b, Z b → b < w.heap.size

theorem m_size (a : Addr) (w : World) : (method 207 50 (.pointer (some a)) "Size").run Try.prog w = .ok (58, .pointer (some a)) w := by kernel_rfl
theorem m_get (a : Addr) (w : World) : (method 207 50 (.pointer (some a)) "Get").run Try.prog w = .ok (56, .pointer (some a)) w := by kernel_rfl
theorem m_put (a : Addr) (w : World) : (method 207 50 (.pointer (some a)) "Put").run Try.prog w = .ok (57, .pointer (some a)) w := by kernel_rfl

theorem TD.grown {Z : Nat → Prop} {w w' : World} {tb db wb cap : Nat} {sa : Option Addr} {t : Tk} {d : Dk} (h : TD Z w tb db wb sa cap t d) (hg : w.grownBy w' none) : TD Z w' tb db wb sa cap t d :=
  ⟨h.t.grown hg, h.d.grown hg, h.ne, Nat.lt_of_lt_of_le h.lt hg.size, fun b hb => Nat.lt_of_lt_of_le (h.hz b hb) hg.size⟩

theorem put_at (db wb cap : Nat) (sa : Option Addr) (d : Dk) (i : Nat) (I x : Int) (w : World) (h : DkR w db wb sa cap d) (hi : i < d.words.length) (hI : I = (i : Int)) :
    Calls Try.prog 57 #[.pointer (some ⟨db, 0, none⟩), .int .i64 I, .int .i64 x] w fun e w' => e = .returned (.bool (putD d i x).2) ∧ Hid (DkR w' db wb sa cap (putD d i x).1) ∧ Hid (Fr (XD db wb) w w') := by
  subst hI
  exact put_calls db wb cap sa d i x _ w h (List.getElem?_eq_getElem hi)

theorem wpM_nci {P : Program} {ops : Array Oper} {C : World → Prop} {B : Nat → Bool} {Q : Act → World → Prop} {k : Nat} {o : Oper} {rest : List Oper} {a : Act} {w : World} (hw : Region.wanted o (yielded ops a.tmps) = true) (hB : B k = false) (x : Operand) (t : TypeId) (p : Value) (ho : o.op = .nilCheck x) (hx : a.eval x = .iface t p)
    (h : Mixed.wpM P ops C B Q (k + 1) rest (a.put o.dst (.iface t p)) w) : Mixed.wpM P ops C B Q k (o :: rest) a w :=
  Mixed.wpM_val hw hB _ (fun w' _ => by unfold execOp; simp only [ho]; rw [hx]; rfl) h

/-- The worlds in which nothing but the blocks of X has turned. -/
structure LaterX (X : Nat → Prop) (W : World) where
  w : World
  h : Fr X W w
def lateX (X : Nat → Prop) (W : World) (w' : World) : Prop := ∃ n : LaterX X W, w' = n.w
theorem LaterX.nonempty (X : Nat → Prop) (W : World) : Nonempty (LaterX X W) := ⟨⟨W, Fr.refl _ _⟩⟩
theorem LaterX.cell {X : Nat → Prop} {W : World} {p : Addr} {v : Value} (h : W.cell? p = some v) (hx : ¬ X p.block) (n : LaterX X W) : n.w.cell? p = some v := n.h.cell h hx

/-- The take is broken. -/
theorem td_broken {Z : Nat → Prop} {w wz : World} {tb db wb cap : Nat} {sa : Option Addr} {s : Ver} {ed : Nat} {d d' : Dk} {vsl : Value} (h : TD Z w tb db wb sa cap ⟨s, ed, false⟩ d) (hst : w.heap[tb]? = some (.cells #[.iface 50 (.pointer (some ⟨db, 0, none⟩)), vsl, .int .i64 (s.at_ : Int), .int .i64 (ed : Int), .bool false] 70 (0, 0))) (hvs : VsR w (AZ Z tb db wb) vsl s.vs) (hf : Fr (XT tb db wb) w wz) (hz : wz.heap[tb]? = some (.cells #[.iface 50 (.pointer (some ⟨db, 0, none⟩)), vsl, .int .i64 (s.at_ : Int), .int .i64 (ed : Int), .bool false] 70 (0, 0))) (hd : DkR wz db wb sa cap d') :
    TD Z (wz.setCell ⟨tb, 4, none⟩ (.bool true)) tb db wb sa cap ⟨s, ed, true⟩ d' := by
  have hfs : Fr (fun b => b = tb) wz (wz.setCell ⟨tb, 4, none⟩ (.bool true)) := fr_set (X := fun b => b = tb) (p := ⟨tb, 4, none⟩) (Fr.refl _ _) (.inl rfl) _
  refine ⟨⟨⟨vsl, set_self hz _, (hvs.fr hf (fun b hb hx => hb.1 hx)).fr hfs (fun b hb hx => hb.1 (.inl hx))⟩, ⟨h.t.good.s, h.t.good.edits⟩⟩, hd.fr hfs (fun b hb hx => ?_), h.ne, Nat.lt_of_lt_of_le h.lt (by rw [size_set]; exact hf.size), fun b hb => Nat.lt_of_lt_of_le (h.hz b hb) (by rw [size_set]; exact hf.size)⟩
  subst hb
  rcases hx with hx | hx
  · exact h.ne.1 hx
  · exact h.ne.2 hx

/-- The take behind an edit. -/
theorem td_next {Z : Nat → Prop} {w w6 wz : World} {tb db wb cap : Nat} {sa : Option Addr} {s s2 : Ver} {ed : Nat} {d d' : Dk} {vsl vsl2 : Value} (h : TD Z w tb db wb sa cap ⟨s, ed, false⟩ d) (hg : GoodT ⟨s2, ed + 1, false⟩) (hvs : VsR w6 (AZ Z tb db wb) vsl2 s2.vs) (hf6 : Fr (XD db wb) w6 wz) (hf : Fr (XT tb db wb) w wz) (hz : wz.heap[tb]? = some (.cells #[.iface 50 (.pointer (some ⟨db, 0, none⟩)), vsl, .int .i64 (s.at_ : Int), .int .i64 (ed : Int), .bool false] 70 (0, 0))) (hd : DkR wz db wb sa cap d') :
    TD Z (((wz.setCell ⟨tb, 1, none⟩ vsl2).setCell ⟨tb, 2, none⟩ (.int .i64 (s2.at_ : Int))).setCell ⟨tb, 3, none⟩ (.int .i64 ((ed : Int) + 1))) tb db wb sa cap ⟨s2, ed + 1, false⟩ d' := by
  have hfs : Fr (fun b => b = tb) wz (((wz.setCell ⟨tb, 1, none⟩ vsl2).setCell ⟨tb, 2, none⟩ (.int .i64 (s2.at_ : Int))).setCell ⟨tb, 3, none⟩ (.int .i64 ((ed : Int) + 1))) := fr_set (X := fun b => b = tb) (p := ⟨tb, 3, none⟩) (fr_set (X := fun b => b = tb) (p := ⟨tb, 2, none⟩) (fr_set (X := fun b => b = tb) (p := ⟨tb, 1, none⟩) (Fr.refl _ _) (.inl rfl) _) (.inl rfl) _) (.inl rfl) _
  refine ⟨⟨⟨vsl2, ?_, (hvs.fr hf6 (fun b hb hx => hb.1 (.inr hx))).fr hfs (fun b hb hx => hb.1 (.inl hx))⟩, hg⟩, hd.fr hfs (fun b hb hx => ?_), h.ne, Nat.lt_of_lt_of_le h.lt (by rw [size_set, size_set, size_set]; exact hf.size), fun b hb => Nat.lt_of_lt_of_le (h.hz b hb) (by rw [size_set, size_set, size_set]; exact hf.size)⟩
  · rw [set_self (set_self (set_self hz _) _) _]
    rfl
  · subst hb
    rcases hx with hx | hx
    · exact h.ne.1 hx
    · exact h.ne.2 hx

set_option maxHeartbeats 4000000 in
set_option maxRecDepth 100000 in
theorem do_calls (Z : Nat → Prop) (tb db wb cap : Nat) (sa : Option Addr) (t : Tk) (d : Dk) (e : Ed) (w : World) (h : TD Z w tb db wb sa cap t d) :
    Calls Try.prog 15 #[.pointer (some ⟨tb, 0, none⟩), .agg #[.int .i64 e.do_, .int .i64 e.n, .int .i64 e.t.at_, .int .i64 e.t.long, .int .i64 e.t.lt, .int .i64 e.t.al, .int .i64 e.t.oc]] w
      fun r w' => r = .returned (.int .i64 (doT t d e).2.2) ∧ Hid (TD Z w' tb db wb sa cap (doT t d e).1 (doT t d e).2.1) ∧ Hid (Fr (XT tb db wb) w w') := by
  have HTD := Lib.hid h
  obtain ⟨vsl, hst, hvs⟩ := h.t.ex
  have hgood := h.t.good
  have p4 := cell_of hst 4
  have HST := Lib.hid hst
  have HVS := Lib.hid hvs
  obtain ⟨RT, hRT⟩ : ∃ RT, doT t d e = RT := ⟨_, rfl⟩
  have HRT := Lib.hid hRT
  rw [hRT]
  clear hRT h
  obtain ⟨⟨vs, at_⟩, ed, br⟩ := t
  obtain ⟨e2, he2⟩ : ∃ e2, plainE e = e2 := ⟨_, rfl⟩
  have HE2 := Lib.hid he2
  simp only at HST HVS p4
  clear hst hvs
  have HGD : Hid (GoodT ⟨⟨vs, at_⟩, ed, br⟩) := hgood
  clear hgood
  have HPC := Lib.hid (fun w' => plain_calls e w')
  rw [he2] at HPC
  clear he2
  obtain ⟨D, N, ⟨ta, tl, tt, tal, to_⟩⟩ := e
  simp only at HPC ⊢
  have ded := HGD.out.edits
  simp only at ded
  have ded2 : (ed : Int) ≤ 1024 := by omega
  obtain ⟨eb, heb⟩ : ∃ eb, w.heap.size = eb := ⟨_, rfl⟩
  have HEB := Lib.hid heb
  clear heb
  go_enter Try.func15, Try.ntmps15
  go_upto_region 1 with fail
  simp only [HEB.out]
  obtain ⟨w1, hw1⟩ : ∃ w1, w.alloc (.cells #[.int .i64 D, .int .i64 N, .int .i64 ta, .int .i64 tl, .int .i64 tt, .int .i64 tal, .int .i64 to_] 40) = w1 := ⟨_, rfl⟩
  have HG1 : Hid (w.grownBy w1 none) := by unfold Hid; rw [← hw1]; exact grown_alloc (grown_refl _ _) _
  have HRE : Hid (w1.heap[eb]? = some (.cells #[.int .i64 D, .int .i64 N, .int .i64 ta, .int .i64 tl, .int .i64 tt, .int .i64 tal, .int .i64 to_] 40 (0, 0))) := by unfold Hid; rw [← hw1, ← HEB.out]; exact heap_alloc_new _ _
  simp only [hw1]
  clear hw1
  have q4 := grown_cell HG1.out p4 (by simp)
  clear p4
  cases br with
  | true =>
    have HF : Hid (RT = (⟨⟨vs, at_⟩, ed, true⟩, d, 9)) := by
      unfold Hid
      rw [← HRT.out]
      rfl
    go_wp2_with fail
    go_ret
    exact ⟨by rw [HF.out]; rfl, by rw [HF.out]; exact HTD.out.grown HG1.out, .none HG1.out⟩
  | false =>
    go_upto_region 3 with fail
    have b0 := cell_of HRE.out 0
    have b1 := cell_of HRE.out 1
    have b2 := cell_of HRE.out 2
    have b3 := cell_of HRE.out 3
    have b4 := cell_of HRE.out 4
    have b5 := cell_of HRE.out 5
    have b6 := cell_of HRE.out 6
    go_upto_region 4 with (go_at_call 25; refine (HPC.out _).mono ?_; rintro ez w2 ⟨rfl, hg2⟩; have hre2 := row_kept hg2.out HRE.out (by simp); have c0 := cell_of hre2 0; have c1 := cell_of hre2 1; have c2 := cell_of hre2 2; have c3 := cell_of hre2 3; have c4 := cell_of hre2 4; have c5 := cell_of hre2 5; have c6 := cell_of hre2 6; have z0 := free_of hre2 0; have z1 := free_of hre2 1; have z2 := free_of hre2 2; have z3 := free_of hre2 3; have z4 := free_of hre2 4; have z5 := free_of hre2 5; have z6 := free_of hre2 6)
    obtain ⟨w2, rfl⟩ : ∃ w2' : World, w2' = w2 := ⟨_, rfl⟩
    have HG2 : Hid (w.grownBy w2 none) := grown_trans HG1.out hg2.out
    have HRE2 : Hid (w2.heap[eb]? = some (.cells #[.int .i64 D, .int .i64 N, .int .i64 ta, .int .i64 tl, .int .i64 tt, .int .i64 tal, .int .i64 to_] 40 (0, 0))) := row_kept hg2.out HRE.out (by simp)
    clear c0 c1 c2 c3 c4 c5 c6 z0 z1 z2 z3 z4 z5 z6 hre2 b0 b1 b2 b3 b4 b5 b6 hg2 HRE q4
    obtain ⟨w3, hw3⟩ : ∃ w3, ((((((w2.setCell ⟨eb, 0, none⟩ (.int .i64 e2.do_)).setCell ⟨eb, 1, none⟩ (.int .i64 e2.n)).setCell ⟨eb, 2, none⟩ (.int .i64 e2.t.at_)).setCell ⟨eb, 3, none⟩ (.int .i64 e2.t.long)).setCell ⟨eb, 4, none⟩ (.int .i64 e2.t.lt)).setCell ⟨eb, 5, none⟩ (.int .i64 e2.t.al)).setCell ⟨eb, 6, none⟩ (.int .i64 e2.t.oc) = w3 := ⟨_, rfl⟩
    have HRE3 : Hid (w3.heap[eb]? = some (.cells #[.int .i64 e2.do_, .int .i64 e2.n, .int .i64 e2.t.at_, .int .i64 e2.t.long, .int .i64 e2.t.lt, .int .i64 e2.t.al, .int .i64 e2.t.oc] 40 (0, 0))) := by
      unfold Hid
      rw [← hw3, set_self (set_self (set_self (set_self (set_self (set_self (set_self HRE2.out _) _) _) _) _) _) _]
      rfl
    have HG3 : Hid (w.grownBy w3 none) := by
      have hb : w.heap.size ≤ eb := Nat.le_of_eq HEB.out
      unfold Hid
      rw [← hw3]
      exact grown_set (grown_set (grown_set (grown_set (grown_set (grown_set (grown_set HG2.out (.inr hb) _) (.inr hb) _) (.inr hb) _) (.inr hb) _) (.inr hb) _) (.inr hb) _) (.inr hb) _
    simp only [hw3]
    clear hw3 HRE2
    have HST3 := Lib.hid (row_kept HG3.out HST.out (by simp))
    have b0 := cell_of HRE3.out 0
    have b1 := cell_of HRE3.out 1
    have b2 := cell_of HRE3.out 2
    have b3 := cell_of HRE3.out 3
    have b4 := cell_of HRE3.out 4
    have b5 := cell_of HRE3.out 5
    have b6 := cell_of HRE3.out 6
    have NC := Lib.hid (next_calls tb _ _ _ vsl (AZ Z tb db wb) ⟨vs, at_⟩ ed e2 w3 HST3.out (HVS.out.grown HG3.out) HGD.out.s ded (fun b hb => ⟨fun hx => by
      have h1 := HTD.out.lt
      have h2 := lt_of HTD.out.d.st
      have h3 := HTD.out.d.lt
      have h4 := HG3.out.size
      rcases hx with rfl | rfl | rfl <;> omega, fun hx => by
      have h1 := HTD.out.hz b hx
      have h4 := HG3.out.size
      omega⟩))
    obtain ⟨E, hE⟩ : ∃ E, errE ⟨vs, at_⟩ e2 = E := ⟨_, rfl⟩
    have HE := Lib.hid hE
    rw [hE] at NC
    clear hE
    go_upto_region 5 with (go_at_call 24; refine (NC.out).mono ?_; rintro ez w4 ⟨ao4, n4, c4, k4, rfl, hv4, hg4⟩)
    obtain ⟨w4, rfl⟩ : ∃ w4' : World, w4' = w4 := ⟨_, rfl⟩
    have HG4 : Hid (w.grownBy w4 none) := grown_trans HG3.out hg4.out
    have HRE4 : Hid (w4.heap[eb]? = some (.cells #[.int .i64 e2.do_, .int .i64 e2.n, .int .i64 e2.t.at_, .int .i64 e2.t.long, .int .i64 e2.t.lt, .int .i64 e2.t.al, .int .i64 e2.t.oc] 40 (0, 0))) := row_kept hg4.out HRE3.out (by simp)
    have HST4 := Lib.hid (row_kept HG4.out HST.out (by simp))
    clear b0 b1 b2 b3 b4 b5 b6 hg4 HRE3 HST3
    by_cases hE0 : E = 0
    rotate_left
    · have HF : Hid (RT = (⟨⟨vs, at_⟩, ed, false⟩, d, E)) := by
        unfold Hid
        rw [← HRT.out]
        unfold doT
        simp only [HE2.out, HE.out]
        rw [if_neg (by simp), if_pos hE0]
      go_wp2_with fail
      go_ret
      exact ⟨by rw [HF.out]; rfl, by rw [HF.out]; exact HTD.out.grown HG4.out, .none HG4.out⟩
    subst hE0
    have HV4 := Lib.hid (hv4.out rfl)
    clear hv4
    have p0 := cell_of HST4.out 0
    have p3 := cell_of HST4.out 3
    have HD4 := Lib.hid (HTD.out.d.grown HG4.out)
    have SZ := Lib.hid (size_calls db wb cap sa d w4 HD4.out)
    obtain ⟨ln, hln⟩ : ∃ ln, d.words.length = ln := ⟨_, rfl⟩
    have HLN := Lib.hid hln
    rw [hln] at SZ
    have hsm := HD4.out.small
    rw [hln] at hsm
    clear hln
    have hw8 : IntKind.i64.wrap ((ed : Int) * 8) = ((ed * 8 : Nat) : Int) := by rw [IntWalk.i64_in _ (by omega)]; omega
    have hw9 : IntKind.i64.wrap (((ed * 8 : Nat) : Int) + 8) = ((ed * 8 + 8 : Nat) : Int) := by rw [IntWalk.i64_in _ (by omega)]; omega
    go_upto_region 8 with fail
    by_cases hed : ed = 1024
    · have HF : Hid (RT = (⟨⟨vs, at_⟩, ed, false⟩, d, 4)) := by
        unfold Hid
        rw [← HRT.out]
        unfold doT
        simp only [HE2.out, HE.out]
        rw [if_neg (by simp), if_neg (by simp), if_pos (.inl hed)]
      subst hed
      go_wp2_with fail
      go_ret
      exact ⟨by rw [HF.out]; rfl, by rw [HF.out]; exact HTD.out.grown HG4.out, .none HG4.out⟩
    have hed2 : ¬ (ed : Int) = 1024 := by omega
    have ms := m_size ⟨db, 0, none⟩
    have mp := m_put ⟨db, 0, none⟩
    by_cases hroom : ln < ed * 8 + 8
    · have HF : Hid (RT = (⟨⟨vs, at_⟩, ed, false⟩, d, 4)) := by
        unfold Hid
        rw [← HRT.out]
        unfold doT
        simp only [HE2.out, HE.out]
        rw [if_neg (by simp), if_neg (by simp), if_pos (.inr (by rw [HLN.out]; exact hroom))]
      have hr2 : (ln : Int) < (ed : Int) * 8 + 8 := by omega
      go_wp2_with (go_at_call 58; refine (SZ.out).mono ?_; rintro ez w5 ⟨rfl, hg5⟩)
      go_ret
      exact ⟨by rw [HF.out]; rfl, by rw [HF.out]; exact HTD.out.grown (grown_trans HG4.out hg5.out), .none (grown_trans HG4.out hg5.out)⟩
    have hr2 : ¬ (ln : Int) < (ed : Int) * 8 + 8 := by omega
    have hr3 : decide ((ln : Int) < (ed : Int) * 8 + 8) = false := decide_eq_false hr2
    have HWC := Lib.hid (fun w' => words_calls e2 w')
    go_upto_region 10 with (go_at_call 58; refine (SZ.out).mono ?_; rintro ez w5 ⟨rfl, hg5⟩)
    obtain ⟨w5, rfl⟩ : ∃ w5' : World, w5' = w5 := ⟨_, rfl⟩
    have HG5 : Hid (w.grownBy w5 none) := grown_trans HG4.out hg5.out
    have hre5 := row_kept hg5.out HRE4.out (by simp)
    have b0 := cell_of hre5 0
    have b1 := cell_of hre5 1
    have b2 := cell_of hre5 2
    have b3 := cell_of hre5 3
    have b4 := cell_of hre5 4
    have b5 := cell_of hre5 5
    have b6 := cell_of hre5 6
    have HV5 := Lib.hid ((HV4.out).2.grown hg5.out)
    have HK4 := Lib.hid ((HV4.out).1)
    clear p0 p3 SZ HD4 hg5 HRE4 HST4 hre5
    go_upto_region 11 with (go_at_call 26; refine (HWC.out _).mono ?_; rintro ez w6 ⟨g, rfl, hrg, hgg, hg6⟩)
    obtain ⟨w6, rfl⟩ : ∃ w6' : World, w6' = w6 := ⟨_, rfl⟩
    have HG6 : Hid (w.grownBy w6 none) := grown_trans HG5.out hg6.out
    have HV6 := Lib.hid (HV5.out.grown hg6.out)
    have HD6 := Lib.hid (HTD.out.d.grown HG6.out)
    have hst6 := row_kept HG6.out HST.out (by simp)
    have HST6 := Lib.hid hst6
    have HRG := hrg
    have HGB : Hid (w.heap.size ≤ g) := Nat.le_trans HG5.out.size hgg.out
    have p0 := cell_of hst6 0
    clear b0 b1 b2 b3 b4 b5 b6 HV5 hg6 hrg hgg hst6
    obtain ⟨PD, hPD⟩ : ∃ PD, putD d (ed * 8) 0 = PD := ⟨_, rfl⟩
    have HPD := Lib.hid hPD
    have P0 := Lib.hid (put_at db wb cap sa d (ed * 8) ((ed : Int) * 8) 0 w6 HD6.out (by rw [HLN.out]; omega) (by omega))
    rw [hPD] at P0
    clear hPD
    obtain ⟨d1, ok1⟩ := PD
    have HL1 : Hid (d1.words.length = ln) := by
      have h := put_len d (ed * 8) 0
      rw [HPD.out, HLN.out] at h
      exact h
    have hfr0 : ∀ b, XD db wb b → XT tb db wb b ∧ b ≠ tb := fun b hb => ⟨hb.elim (fun h => .inr (.inl h)) (fun h => .inr (.inr h)), fun e => by
      subst e
      rcases hb with h | h
      · exact HTD.out.ne.1 h
      · exact HTD.out.ne.2 h⟩
    have HFR0 := Lib.hid hfr0
    clear hfr0
    go_upto_region 12 with (go_at_call 57; refine (P0.out).mono ?_; rintro ez w7 ⟨rfl, hd7, hf7⟩)
    obtain ⟨w7, rfl⟩ : ∃ w7' : World, w7' = w7 := ⟨_, rfl⟩
    obtain ⟨LL, hLL⟩ : ∃ LL : List Int, 0 :: (recW e2).tail = LL := ⟨_, rfl⟩
    have HLL := Lib.hid hLL
    have hL8 : LL.length = 8 := by rw [← hLL]; rfl
    have HI1 : Hid (putsD d (ed * 8) LL = if ok1 = true then putsD d1 (ed * 8 + 1) (LL.drop 1) else (d1, false)) := by
      unfold Hid
      rw [← hLL]
      show (let (d', ok) := putD d (ed * 8) 0; if ok = true then putsD d' (ed * 8 + 1) (recW e2).tail else (d', false)) = _
      rw [HPD.out]
      rfl
    have HX : Hid (∀ (i : Nat) (x : Int), 1 ≤ i → LL[i]? = some x → w6.cell? ⟨g, i, none⟩ = some (.int .i64 x)) := by
      intro i x h1 hx
      rw [cell_of HRG.out i]
      rw [← HLL.out] at hx
      match i, h1, hx with
      | 1, _, hx | 2, _, hx | 3, _, hx | 4, _, hx | 5, _, hx | 6, _, hx | 7, _, hx =>
        simp [recW] at hx
        subst hx
        rfl
      | i + 8, _, hx => simp [recW] at hx
    clear hLL p0
    go_wp2_with fail
    go_loopw [10, 11] (fun v10 v11 wr => ∃ (i : Nat) (ok : Bool) (d' : Dk), 1 ≤ i ∧ i ≤ 8 ∧ v10 = .bool ok ∧ v11 = .int .i64 (i : Int) ∧ Hid (putsD d (ed * 8) LL = if ok = true then putsD d' (ed * 8 + i) (LL.drop i) else (d', false)) ∧ Hid (DkR wr db wb sa cap d') ∧ Hid (d'.words.length = ln) ∧ Hid (Fr (XD db wb) w6 wr)) (fun v10 v11 _ => 8 - (intOf v11).toNat)
    case atStart => exact ⟨1, ok1, d1, by decide, by decide, rfl, rfl, HI1.out, hd7.out, HL1.out, hf7.out⟩
    case round =>
      obtain ⟨i, ok, d', hi1, hi8, rfl, rfl, HI, HD, HL, HF⟩ := hrel
      obtain ⟨wz, hwz⟩ : ∃ wz : World, wz = wr := ⟨_, rfl⟩
      subst hwz
      clear hd7 hf7 HPD HL1 HI1
      have hstz := HF.out.row HST6.out (fun hb => (HFR0.out _ hb).2 rfl)
      have HSTZ := Lib.hid hstz
      have HGZ : Hid (Fr (XT tb db wb) w wz) := (Fr.none HG6.out).trans (HF.out.mono (fun b hb => (HFR0.out b hb).1))
      have s0 := cell_of hstz 0
      have s3 := cell_of hstz 3
      have s1 := cell_of hstz 1
      have s2 := cell_of hstz 2
      have s4 := cell_of hstz 4
      have z1 := free_of hstz 1
      have z2 := free_of hstz 2
      have z3 := free_of hstz 3
      have z4 := free_of hstz 4
      clear hstz
      have hi1i : (1 : Int) ≤ (i : Int) := by omega
      have hi8i : (i : Int) ≤ 8 := by omega
      have hwi : IntKind.i64.wrap ((i : Int) + 1) = (i : Int) + 1 := IntWalk.i64_in _ (by omega)
      cases ok with
      | false =>
        have HR : Hid (RT = (⟨⟨vs, at_⟩, ed, true⟩, d', 11)) := by
          unfold Hid
          have hq : putRec d (ed * 8) e2 = (d', false) := by
            unfold putRec
            rw [HLL.out, HI.out]
            rfl
          rw [← HRT.out]
          unfold doT
          simp only [HE2.out, HE.out, hq]
          rw [if_neg (by simp), if_neg (by simp), if_neg (by rw [HLN.out]; omega)]
          rfl
        go_wp2_with fail
        go_ret
        exact ⟨by rw [HR.out]; rfl, by rw [HR.out]; exact td_broken HTD.out HST.out HVS.out HGZ.out HSTZ.out HD.out, fr_set HGZ.out (.inl (.inl rfl)) _⟩
      | true =>
        have hldz : d'.words.length = ln := HL.out
        by_cases hi9 : i = 8
        · have hi9' := hi9
          subst hi9
          obtain ⟨PD2, hPD2⟩ : ∃ PD2, putD d' (ed * 8) 1 = PD2 := ⟨_, rfl⟩
          have P1 := Lib.hid (put_at db wb cap sa d' (ed * 8) ((ed : Int) * 8) 1 wz HD.out (by rw [hldz]; omega) (by omega))
          rw [hPD2] at P1
          have hq : putRec d (ed * 8) e2 = PD2 := by
            unfold putRec
            rw [HLL.out, HI.out, if_pos rfl, List.drop_of_length_le (by rw [hL8]; exact Nat.le_refl _)]
            exact hPD2
          have HQ := Lib.hid hq
          clear hq hPD2 hldz hi1 hi8 hi1i hi8i hwi s0 s1 s2 s3 s4 z1 z2 z3 z4
          have s0 := cell_of HSTZ.out 0
          obtain ⟨d2, ok2⟩ := PD2
          cases ok2 with
          | false =>
            have HR : Hid (RT = (⟨⟨vs, at_⟩, ed, true⟩, d2, 11)) := by
              unfold Hid
              rw [← HRT.out]
              unfold doT
              simp only [HE2.out, HE.out, HQ.out]
              rw [if_neg (by simp), if_neg (by simp), if_neg (by rw [HLN.out]; omega)]
              rfl
            go_wp2_with (go_at_call 57; refine (P1.out).mono ?_; rintro ez w8 ⟨rfl, hd8, hf8⟩; have hst8 := hf8.out.row HSTZ.out (fun hb => (HFR0.out _ hb).2 rfl); have t4 := cell_of hst8 4; have z4 := free_of hst8 4)
            go_ret
            have hf9 : Fr (XT tb db wb) w w8 := HGZ.out.trans (hf8.out.mono (fun b hb => (HFR0.out b hb).1))
            exact ⟨by rw [HR.out]; rfl, by rw [HR.out]; exact td_broken HTD.out HST.out HVS.out hf9 hst8 hd8.out, fr_set hf9 (.inl (.inl rfl)) _⟩
          | true =>
            have HR : Hid (RT = (⟨nextE ⟨vs, at_⟩ e2, ed + 1, false⟩, d2, 0)) := by
              unfold Hid
              rw [← HRT.out]
              unfold doT
              simp only [HE2.out, HE.out, HQ.out]
              rw [if_neg (by simp), if_neg (by simp), if_neg (by rw [HLN.out]; omega)]
              rfl
            have HG9 : Hid (GoodT ⟨nextE ⟨vs, at_⟩ e2, ed + 1, false⟩) := ⟨next_good HGD.out.s HE.out, by simp only; omega⟩
            have hwe : IntKind.i64.wrap ((ed : Int) + 1) = (ed : Int) + 1 := IntWalk.i64_in _ (by omega)
            go_wp2_with (go_at_call 57; refine (P1.out).mono ?_; rintro ez w8 ⟨rfl, hd8, hf8⟩; have hst8 := hf8.out.row HSTZ.out (fun hb => (HFR0.out _ hb).2 rfl); have t1 := cell_of hst8 1; have t2 := cell_of hst8 2; have t3 := cell_of hst8 3; have z1 := free_of hst8 1; have z2 := free_of hst8 2; have z3 := free_of hst8 3)
            go_ret
            have hf9 : Fr (XT tb db wb) w w8 := HGZ.out.trans (hf8.out.mono (fun b hb => (HFR0.out b hb).1))
            refine ⟨by rw [HR.out]; rfl, ?_, fr_set (fr_set (fr_set hf9 (.inl (.inl rfl)) _) (.inl (.inl rfl)) _) (.inl (.inl rfl)) _⟩
            rw [HR.out, HK4.out]
            exact td_next HTD.out HG9.out HV6.out (HF.out.trans hf8.out) hf9 hst8 hd8.out
        · have hi9i : (i : Int) < 8 := by omega
          obtain ⟨x, hx⟩ : ∃ x, LL[i]? = some x := ⟨LL[i]'(by omega), List.getElem?_eq_getElem _⟩
          have hcx := HF.out.cell (HX.out i x hi1 hx) (fun hb => by
            have h1 := HGB.out
            have h2 := lt_of HTD.out.d.st
            have h3 := HTD.out.d.lt
            rcases hb with h | h
            · have : g = db := h
              omega
            · have : g = wb := h
              omega)
          obtain ⟨PD2, hPD2⟩ : ∃ PD2, putD d' (ed * 8 + i) x = PD2 := ⟨_, rfl⟩
          have HL2 : Hid (PD2.1.words.length = ln) := by unfold Hid; rw [← hPD2, put_len]; exact hldz
          have HI2 : Hid (putsD d (ed * 8) LL = if PD2.2 = true then putsD PD2.1 (ed * 8 + (i + 1)) (LL.drop (i + 1)) else (PD2.1, false)) := by
            unfold Hid
            have hdx : LL.drop i = x :: LL.drop (i + 1) := by
              obtain ⟨hh, he⟩ := List.getElem?_eq_some_iff.1 hx
              rw [List.drop_eq_getElem_cons hh, he]
            rw [HI.out, if_pos rfl, hdx]
            show (let (d', ok) := putD d' (ed * 8 + i) x; if ok = true then putsD d' (ed * 8 + i + 1) (LL.drop (i + 1)) else (d', false)) = _
            rw [hPD2]
            rfl
          have P1 := Lib.hid (fun (w' : World) (hf : Fr (XD db wb) wz w') (h : DkR w' db wb sa cap d') => put_at db wb cap sa d' (ed * 8 + i) ((ed : Int) * 8 + (i : Int)) x w' h (by rw [hldz]; omega) (by omega))
          rw [hPD2] at P1
          clear hPD2 hx hldz
          obtain ⟨d2, ok2⟩ := PD2
          have hwp : IntKind.i64.wrap ((ed : Int) * 8 + (i : Int)) = (ed : Int) * 8 + (i : Int) := IntWalk.i64_in _ (by omega)
          go_upto_region 15 with fail
          have hne := LaterX.nonempty (XD db wb) wz
          have k0 : ∀ n2 : LaterX (XD db wb) wz, n2.w.cell? ⟨tb, 0, none⟩ = some (.iface 50 (.pointer (some ⟨db, 0, none⟩))) := LaterX.cell s0 (fun hb => (HFR0.out _ hb).2 rfl)
          have kx : ∀ n2 : LaterX (XD db wb) wz, n2.w.cell? ⟨g, i, none⟩ = some (.int .i64 x) := LaterX.cell hcx (fun hb => by
            have h1 := HGB.out
            have h2 := lt_of HTD.out.d.st
            have h3 := HTD.out.d.lt
            rcases hb with h | h
            · have : g = db := h
              omega
            · have : g = wb := h
              omega)
          clear s0 s1 s2 s3 s4 z1 z2 z3 z4 hcx
          refine Mixed.wp_region_mixed (lateX (XD db wb) wz) (fun k => k == 13) (by kernel_rfl) (by kernel_rfl) ⟨⟨wz.drew, fr_drewN (Fr.refl _ _) 1⟩, rfl⟩ ?_
          unfold lateX
          refine Mixed.wpM_quiet rfl rfl rfl ?_; intro Kx hKx; go_big_quiet_op; go_big_quiet_on
          refine wpM_nc rfl rfl _ ⟨tb, 0, none⟩ rfl rfl ?_; go_simp
          refine Mixed.wpM_quiet rfl rfl rfl ?_; intro Kx hKx; go_big_quiet_op; go_big_quiet_on
          refine Mixed.wpM_quiet rfl rfl rfl ?_; intro Kx hKx; go_big_quiet_op; go_big_quiet_on
          refine Mixed.wpM_quiet rfl rfl rfl ?_; intro Kx hKx; go_big_quiet_op; go_big_quiet_on
          refine Mixed.wpM_quiet rfl rfl rfl ?_; intro Kx hKx; go_big_quiet_op; go_big_quiet_on
          refine Mixed.wpM_quiet rfl rfl rfl ?_; intro Kx hKx; go_big_quiet_op; go_big_quiet_on
          refine Mixed.wpM_quiet rfl rfl rfl ?_; intro Kx hKx; go_big_quiet_op; go_big_quiet_on
          refine Mixed.wpM_quiet rfl rfl rfl ?_; intro Kx hKx; go_big_quiet_op; go_big_quiet_on
          refine Mixed.wpM_quiet rfl rfl rfl ?_; intro Kx hKx; go_big_quiet_op; go_big_quiet_on
          refine Mixed.wpM_quiet rfl rfl rfl ?_; intro Kx hKx; go_big_quiet_op; go_big_quiet_on
          refine wpM_nci rfl rfl _ 50 (.pointer (some ⟨db, 0, none⟩)) rfl rfl ?_; go_simp
          refine Mixed.wpM_quiet rfl rfl rfl ?_; intro Kx hKx; go_big_quiet_op; go_big_quiet_on
          refine Mixed.wpM_call rfl rfl 57 _ (by go_simp; rfl) ?_
          refine (P1.out _ (fr_drewN (Fr.refl _ _) 1) (HD.out.fr (X := fun _ => False) (fr_drewN (Fr.refl _ _) 1) (fun _ h => h.elim))).mono ?_
          rintro ez w8 ⟨rfl, hd8, hf8⟩
          have HF8 : Hid (Fr (XD db wb) wz w8) := (fr_drewN (Fr.refl _ _) 1).trans hf8.out
          refine ⟨_, rfl, ⟨⟨w8, HF8.out⟩, rfl⟩, ?_⟩
          clear hf8
          go_simp
          refine Mixed.wpM_quiet rfl rfl rfl ?_; intro Kx hKx; go_big_quiet_op; go_big_quiet_on
          refine Mixed.wpM_nil ?_
          intro nx hnx
          clear nx hnx k0 kx hne
          go_wp2_with fail
          exact ⟨⟨i + 1, ok2, d2, by omega, by omega, rfl, rfl, HI2.out, hd8.out, HL2.out, HF.out.trans HF8.out⟩, by simp [intOf]; omega⟩
end Go.Proofs.Ytdnmimfichijgaa.KDo
