/- Versions in memory; the edit that comes next: the walk. -/
import Derived.Test.YtdnmimfichijgaaKDisk
import Derived.Test.YtdnmimfichijgaaKWith
import Derived.Test.YtdnmimfichijgaaKDel
import Derived.ArgAppend
namespace Go.Proofs.Ytdnmimfichijgaa.KNext
open Go Go.RowKit Go.Proofs.Ytdnmimfichijgaa.KMod Go.Proofs.Ytdnmimfichijgaa.KTk Go.Proofs.Ytdnmimfichijgaa.KRead Go.Proofs.Ytdnmimfichijgaa.KCells Go.Proofs.Ytdnmimfichijgaa.KWrong Go.Proofs.Ytdnmimfichijgaa.KWith Go.Proofs.Ytdnmimfichijgaa.KClone Go.Proofs.Ytdnmimfichijgaa.KDel Go.Proofs.Ytdnmimfichijgaa.KDisk Go.Proofs.Ytdnmimfichijgaa.Hp Go.Proofs.Ytdnmimfichijgaa.Rd Go.Proofs.Ytdnmimfichijgaa.Opn
set_option linter.unusedVariables false
set_option linter.unusedSimpArgs false

/-- A slice of lines, in blocks that A allows. -/
def VsR (w : World) (A : Nat → Prop) (v : Value) (vss : List (List Tone)) : Prop :=
  ∃ (b cap : Nat) (us : List Value), v = .slice (some ⟨b, 0, none⟩) vss.length cap ∧ vss.length ≤ cap ∧ A b ∧ us.length = vss.length ∧ (∀ (i : Nat) (u : Value), us[i]? = some u → w.cell? ⟨b, i, none⟩ = some u) ∧ (∀ (i : Nat) (u : Value) (l : List Tone), us[i]? = some u → vss[i]? = some l → TosA w A u l)

section
variable {w w' : World} {A A' : Nat → Prop} {v : Value} {vss : List (List Tone)}
theorem VsR.mono (h : VsR w A v vss) (hA : ∀ b, A b → A' b) : VsR w A' v vss := by
  obtain ⟨b, cap, us, h1, h2, h3, h4, h5, h6⟩ := h
  exact ⟨b, cap, us, h1, h2, hA _ h3, h4, h5, fun i u l hu hl => (h6 i u l hu hl).mono hA⟩
theorem VsR.fr {X : Nat → Prop} (h : VsR w A v vss) (hf : Fr X w w') (hA : ∀ b, A b → ¬ X b) : VsR w' A v vss := by
  obtain ⟨b, cap, us, h1, h2, h3, h4, h5, h6⟩ := h
  exact ⟨b, cap, us, h1, h2, h3, h4, fun i u hu => hf.cell (h5 i u hu) (hA b h3), fun i u l hu hl => (h6 i u l hu hl).fr hf hA⟩
theorem VsR.grown (h : VsR w A v vss) (hg : w.grownBy w' none) : VsR w' A v vss := h.fr (.none hg) (X := fun _ => False) (fun _ _ h => h)
/-- One line more, in a row that is new. -/
theorem vs_push {B n : Nat} {us : List Value} {u : Value} {l : List Tone} (hn : vss.length = n) (hus : us.length = n) (hR : ∀ (i : Nat) (u : Value) (l : List Tone), us[i]? = some u → vss[i]? = some l → TosA w A u l) (hl : TosA w A u l) (ho : w.ownsRow B 77 1 v (n + 1) (us ++ [u])) (hA : ∀ b, B ≤ b → A b) : VsR w A v (vss ++ [l]) := by
  obtain ⟨ao, c, rfl⟩ := own_slice ho
  obtain ⟨g, cur, rfl, hB, hg, hnc, _, hsz, hc⟩ := own_row ho (by omega)
  refine ⟨g, c, us ++ [u], by simp [hn], by simp [hn]; omega, hA g hB, by simp [hn, hus], fun i x hx => ?_, fun i x y hx hy => ?_⟩
  · rw [cell_of hg, hc i (by have := (List.getElem?_eq_some_iff.1 hx).1; simp [hus] at this; omega)]
    exact hx
  · by_cases hi : i < n
    · rw [List.getElem?_append_left (by omega)] at hx hy
      exact hR i x y hx hy
    · have hi2 : i = n := by have := (List.getElem?_eq_some_iff.1 hx).1; simp [hus] at this; omega
      subst hi2
      rw [List.getElem?_append_right (by omega)] at hx hy
      rw [hus] at hx
      rw [hn] at hy
      simp at hx hy
      subst hx
      subst hy
      exact hl
end

theorem wpM_append_grows {P : Program} {ops : Array Oper} {C : World → Prop} {B : Nat → Bool} {Q : Act → World → Prop} {k : Nat} {o : Oper} {rest : List Oper} {a : Act} {w : World} (hw : Region.wanted o (yielded ops a.tmps) = true) (hB : B k = true) (s x : Operand) (t : TypeId)
    (ho : o.op = .call { callee := .builtin .append, args := #[s, x], argTypes := #[t, t] })
    (e : TypeId) (i : TypeInfo) (z : Value) (size bytes : Nat) (ht : P.underlying t = some (.slice e)) (hi : P.info? e = some i) (hz : i.zero = some z)
    (hsize : i.size = size) (hby : i.bytes = bytes) (hzs : z.cells.size = size) (hsz : 0 < size)
    (b : Addr) (n cap : Nat) (olds : List Value) (hs : a.eval s = .slice (some b) n cap) (hlo : olds.length = n * size) (holds : ∀ j u, olds[j]? = some u → w.cell? (b.add j) = some u)
    (ad : Addr) (m c : Nat) (news : List Value) (hx : a.eval x = .slice (some ad) m c) (hl : news.length = m * size) (hnews : ∀ j u, news[j]? = some u → w.cell? (ad.add j) = some u)
    (hg : cap < n + m) (h63 : n + m ≤ maxLen) (hbytes : (n + m) * bytes ≤ 140737488355328)
    (h : ∀ v' w', w'.ownsRow w.heap.size e size v' (n + m) (olds ++ news) → w.grownBy w' none → C w' ∧ Mixed.wpM P ops C B Q (k + 1) rest (a.put o.dst v') w') :
    Mixed.wpM P ops C B Q k (o :: rest) a w := by
  obtain ⟨v', w', hr, h2, h3⟩ := run_append_arg_grows (P := P) w t o.type e i z size bytes ht hi hz hsize hby hzs hsz b n cap olds hlo holds ad m c news hl hnews hg h63 hbytes
  obtain ⟨hc, hk⟩ := h v' w' h2 h3
  refine Mixed.wpM_make hw hB v' w' ?_ hc hk
  unfold execOp
  simp only [ho, resolve, invoke, builtin, Sem.run_bind, Sem.run_pure, Result.andThen_ok, List.map_toArray, List.map_cons, List.map_nil, hs, hx, hr]

theorem wpM_nc {P : Program} {ops : Array Oper} {C : World → Prop} {B : Nat → Bool} {Q : Act → World → Prop} {k : Nat} {o : Oper} {rest : List Oper} {a : Act} {w : World} (hw : Region.wanted o (yielded ops a.tmps) = true) (hB : B k = false) (x : Operand) (p : Addr) (ho : o.op = .nilCheck x) (hx : a.eval x = .pointer (some p))
    (h : Mixed.wpM P ops C B Q (k + 1) rest (a.put o.dst (.pointer (some p))) w) : Mixed.wpM P ops C B Q k (o :: rest) a w :=
  Mixed.wpM_val hw hB _ (fun w' _ => by unfold execOp; simp only [ho]; rw [hx]; rfl) h

theorem info77 : (Try.prog.info? 77).map (fun i => (i.zero, i.size, i.bytes)) = some (some (.slice none 0 0), 1, 24) := by kernel_rfl

theorem one_tos (w : World) (t : Tone) : Tos (w.alloc (.cells #[.int .i64 t.at_, .int .i64 t.long, .int .i64 t.lt, .int .i64 t.al, .int .i64 t.oc] 38)) (.slice (some ⟨w.heap.size, 0, none⟩) 1 1) [t] := by
  refine .inl ⟨w.heap.size, 0, 1, trivial, rfl, fun i y hy j u hu => ?_⟩
  have hj : j < 5 := by have := (List.getElem?_eq_some_iff.1 hu).1; exact this
  rw [cell_of (heap_alloc_new _ _)]
  match i, hy with
  | 0, hy =>
    simp at hy
    subst hy
    match j, hj, hu with
    | 0, _, hu => simpa [Tone.cells] using hu
    | 1, _, hu => simpa [Tone.cells] using hu
    | 2, _, hu => simpa [Tone.cells] using hu
    | 3, _, hu => simpa [Tone.cells] using hu
    | 4, _, hu => simpa [Tone.cells] using hu
  | i + 1, hy => simp at hy

set_option maxHeartbeats 4000000 in
set_option maxRecDepth 100000 in
theorem next_calls (tb : Nat) (IF ED BR vsl : Value) (A : Nat → Prop) (s : Ver) (m : Nat) (e : Ed) (w : World) (hst : w.heap[tb]? = some (.cells #[IF, vsl, .int .i64 (s.at_ : Int), ED, BR] 70 (0, 0))) (hvs : VsR w A vsl s.vs) (hgood : GoodV s m) (hm : m ≤ 1024)
    (hnew : ∀ b, w.heap.size ≤ b → A b) :
    Calls Try.prog 24 #[.pointer (some ⟨tb, 0, none⟩), .agg #[.int .i64 e.do_, .int .i64 e.n, .int .i64 e.t.at_, .int .i64 e.t.long, .int .i64 e.t.lt, .int .i64 e.t.al, .int .i64 e.t.oc]] w
      fun r w' => ∃ ao n c k, r = .returned (.tuple #[.slice ao n c, .int .i64 k, .int .i64 (errE s e)]) ∧ Hid (errE s e = 0 → k = ((nextE s e).at_ : Int) ∧ VsR w' A (.slice ao n c) (nextE s e).vs) ∧ Hid (w.grownBy w' none) := by
  have HGD := Lib.hid hgood
  have HNEW := Lib.hid hnew
  obtain ⟨vb, vc, us, rfl, hcap, hA, hul, hus, hut⟩ := hvs
  obtain ⟨vs, at_⟩ := s
  simp only at hst hcap hul hus hut ⊢
  have hat : at_ < vs.length := hgood.at_
  have hmany : vs.length ≤ m + 1 := hgood.many
  obtain ⟨now, hnow⟩ : ∃ now, (Ver.mk vs at_).now = now := ⟨_, rfl⟩
  have hna : vs[at_]? = some now := by rw [← hnow]; exact hgood.now_at
  have hnm : now ∈ vs := by rw [← hnow]; exact hgood.now_mem
  have hbig := hgood.big now hnm
  have hoks := hgood.ok now hnm
  obtain ⟨u0, hu0⟩ : ∃ u, us[at_]? = some u := ⟨us[at_]'(by rw [hul]; exact hat), List.getElem?_eq_getElem _⟩
  have htos := hut at_ u0 now hu0 hna
  have hc0 := hus at_ u0 hu0
  obtain ⟨ao, c, rfl⟩ := sla_open htos
  have HNW := Lib.hid hnow
  have HT := Lib.hid htos
  have HUS := Lib.hid hus
  have HUT := Lib.hid hut
  have HUL := Lib.hid hul
  have HAB := Lib.hid hA
  have HOKS := Lib.hid hoks
  have p1 := cell_of hst 1
  have p2 := cell_of hst 2
  have HST := Lib.hid hst
  obtain ⟨n, hn⟩ : ∃ n, vs.length = n := ⟨_, rfl⟩
  have HN := Lib.hid hn
  obtain ⟨q, hq⟩ : ∃ q, now.length = q := ⟨_, rfl⟩
  have HQ := Lib.hid hq
  rw [hn] at hat hmany hcap HUL p1
  simp only [hq] at hc0 HT hbig
  obtain ⟨D, N, ⟨ta, tl, tt, tal, to_⟩⟩ := e
  simp only
  have hat2 : (at_ : Int) < (n : Int) := by omega
  have hnb : (n : Int) ≤ 1025 := by omega
  have hqb : (q : Int) ≤ 1024 := by omega
  clear hgood hnew hst hus hut hul hA hna hnm hoks htos hnow hu0 hn hq
  go_enter Try.func24, Try.ntmps24
  go_wp2_with fail
  obtain ⟨eb, heb⟩ : ∃ eb, w.heap.size = eb := ⟨_, rfl⟩
  have HEB := Lib.hid heb
  clear heb
  simp only [HEB.out]
  obtain ⟨w1, hw1⟩ : ∃ w1, w.alloc (.cells #[.int .i64 D, .int .i64 N, .int .i64 ta, .int .i64 tl, .int .i64 tt, .int .i64 tal, .int .i64 to_] 40) = w1 := ⟨_, rfl⟩
  have HG1 : Hid (w.grownBy w1 none) := by unfold Hid; rw [← hw1]; exact grown_alloc (grown_refl _ _) _
  have HRE : Hid (w1.heap[eb]? = some (.cells #[.int .i64 D, .int .i64 N, .int .i64 ta, .int .i64 tl, .int .i64 tt, .int .i64 tal, .int .i64 to_] 40 (0, 0))) := by unfold Hid; rw [← hw1, ← HEB.out]; exact heap_alloc_new _ _
  simp only [hw1]
  clear hw1
  have a1 := grown_cell HG1.out p1 (by simp)
  have a2 := grown_cell HG1.out p2 (by simp)
  have a0 := grown_cell HG1.out hc0 (by simp)
  have b0 := cell_of HRE.out 0
  clear p1 p2 hc0
  go_quiet (fail)
  obtain ⟨wq, hwq⟩ : ∃ wq, w1.drewN nq = wq := ⟨_, rfl⟩
  have HGQ : Hid (w.grownBy wq none) := by unfold Hid; rw [← hwq]; exact grown_drewN HG1.out _
  have HRQ : Hid (wq.heap[eb]? = some (.cells #[.int .i64 D, .int .i64 N, .int .i64 ta, .int .i64 tl, .int .i64 tt, .int .i64 tal, .int .i64 to_] 40 (0, 0))) := by unfold Hid; rw [← hwq]; exact HRE.out
  have p1 : wq.cell? ⟨tb, 1, none⟩ = some (.slice (some ⟨vb, 0, none⟩) n vc) := by rw [← hwq]; exact a1
  have p2 : wq.cell? ⟨tb, 2, none⟩ = some (.int .i64 (at_ : Int)) := by rw [← hwq]; exact a2
  simp only [hwq]
  clear hwq a0 a1 a2 b0 HRE HG1
  have b0 := cell_of HRQ.out 0
  have b1 := cell_of HRQ.out 1
  have b2 := cell_of HRQ.out 2
  have b3 := cell_of HRQ.out 3
  have b4 := cell_of HRQ.out 4
  have b5 := cell_of HRQ.out 5
  have b6 := cell_of HRQ.out 6
  have HTQ : Hid (Tos wq (.slice ao q c) now) := Tos.grown HT.out.tos HGQ.out
  obtain ⟨w0, rfl⟩ : ∃ w0 : World, w0 = w := ⟨_, rfl⟩
  by_cases hD1 : D = 1
  · subst hD1
    have HERR : Hid (errE ⟨vs, at_⟩ ⟨1, N, ⟨ta, tl, tt, tal, to_⟩⟩ = if wrongT [⟨ta, tl, tt, tal, to_⟩] ≠ 0 then wrongT [⟨ta, tl, tt, tal, to_⟩] else if q = 1024 then 5 else 0) := by
      unfold Hid errE
      rw [HNW.out, HQ.out]
      rfl
    have HNX : Hid (nextE ⟨vs, at_⟩ ⟨1, N, ⟨ta, tl, tt, tal, to_⟩⟩ = ⟨vs.take (at_ + 1) ++ [insT now ⟨ta, tl, tt, tal, to_⟩], at_ + 1⟩) := by
      unfold Hid nextE
      rw [HNW.out]
      rfl
    have HOK1 := Lib.hid (fun h => (wrong_one_ok (t := ⟨ta, tl, tt, tal, to_⟩)).1 h)
    have W1 := Lib.hid (fun w' => wrong_calls (some ⟨w'.heap.size, 0, none⟩) 1 [⟨ta, tl, tt, tal, to_⟩] (w'.alloc (.cells #[.int .i64 ta, .int .i64 tl, .int .i64 tt, .int .i64 tal, .int .i64 to_] 38)) (one_tos w' ⟨ta, tl, tt, tal, to_⟩) (by simp))
    obtain ⟨R, hR⟩ : ∃ R, wrongT [⟨ta, tl, tt, tal, to_⟩] = R := ⟨_, rfl⟩
    simp only [hR] at W1 HERR HOK1
    clear hR
    by_cases hR0 : R = 0
    · subst hR0
      have HOK := HOK1.out rfl
      clear HOK1
      by_cases hq1 : q = 1024
      · have HE5 : Hid (errE ⟨vs, at_⟩ ⟨1, N, ⟨ta, tl, tt, tal, to_⟩⟩ = 5) := by unfold Hid; rw [HERR.out, if_neg (by simp), if_pos hq1]
        have hq2 : (q : Int) = 1024 := by omega
        subst hq1
        go_wp2_with (go_at_call 30; refine (W1.out _).mono ?_; rintro ez w3 ⟨rfl, hg3⟩)
        go_ret3
        exact ⟨_, _, _, _, by rw [HE5.out]; rfl, (fun h => absurd (HE5.out.symm.trans h) (by decide)), grown_trans (grown_alloc HGQ.out _) hg3.out⟩
      · have hq2 : ¬ (q : Int) = 1024 := by omega
        go_wp2_with (go_at_call 30; refine (W1.out _).mono ?_; rintro ez w3 ⟨rfl, hg3⟩)
        have HE0 : Hid (errE ⟨vs, at_⟩ ⟨1, N, ⟨ta, tl, tt, tal, to_⟩⟩ = 0) := by unfold Hid; rw [HERR.out, if_neg (by simp), if_neg hq1]
        have WC := Lib.hid (fun (w' : World) (h1 : w0.grownBy w' none) => with_calls ao c now ⟨ta, tl, tt, tal, to_⟩ w' (by rw [HQ.out]; exact (HT.out.tos.grown h1)) HOKS.out HOK (by rw [HQ.out]; omega))
        simp only [HQ.out] at WC
        obtain ⟨wk, rfl⟩ : ∃ wk : World, wk = w3 := ⟨_, rfl⟩
        have HGK : Hid (w0.grownBy wk none) := grown_trans (grown_alloc HGQ.out _) hg3.out
        have HRK : Hid (wk.heap[eb]? = some (.cells #[.int .i64 1, .int .i64 N, .int .i64 ta, .int .i64 tl, .int .i64 tt, .int .i64 tal, .int .i64 to_] 40 (0, 0))) := row_kept (grown_trans (grown_alloc (grown_refl wq none) _) hg3.out) HRQ.out (by simp)
        have hne := Mixed.Later.nonempty wk
        have k1 : ∀ n2 : Mixed.Later wk, n2.w.cell? ⟨tb, 1, none⟩ = some (.slice (some ⟨vb, 0, none⟩) n vc) := Mixed.Later.cell (grown_cell (grown_trans (grown_alloc (grown_refl wq none) _) hg3.out) p1 (by simp))
        have k2 : ∀ n2 : Mixed.Later wk, n2.w.cell? ⟨tb, 2, none⟩ = some (.int .i64 (at_ : Int)) := Mixed.Later.cell (grown_cell (grown_trans (grown_alloc (grown_refl wq none) _) hg3.out) p2 (by simp))
        have e1 : ∀ n2 : Mixed.Later wk, n2.w.cell? ⟨eb, 1, none⟩ = some (.int .i64 N) := Mixed.Later.cell (cell_of HRK.out 1)
        have e2 : ∀ n2 : Mixed.Later wk, n2.w.cell? ⟨eb, 2, none⟩ = some (.int .i64 ta) := Mixed.Later.cell (cell_of HRK.out 2)
        have e3 : ∀ n2 : Mixed.Later wk, n2.w.cell? ⟨eb, 3, none⟩ = some (.int .i64 tl) := Mixed.Later.cell (cell_of HRK.out 3)
        have e4 : ∀ n2 : Mixed.Later wk, n2.w.cell? ⟨eb, 4, none⟩ = some (.int .i64 tt) := Mixed.Later.cell (cell_of HRK.out 4)
        have e5 : ∀ n2 : Mixed.Later wk, n2.w.cell? ⟨eb, 5, none⟩ = some (.int .i64 tal) := Mixed.Later.cell (cell_of HRK.out 5)
        have e6 : ∀ n2 : Mixed.Later wk, n2.w.cell? ⟨eb, 6, none⟩ = some (.int .i64 to_) := Mixed.Later.cell (cell_of HRK.out 6)
        have hwa : IntKind.i64.wrap ((at_ : Int) + 1) = ((at_ + 1 : Nat) : Int) := by rw [IntWalk.i64_in _ (by omega)]; omega
        have hca : at_ + 1 ≤ vc := by omega
        have hca2 : ((at_ + 1 : Nat) : Int) ≤ (vc : Int) := by omega
        clear b0 b1 b2 b3 b4 b5 b6 p1 p2
        refine Mixed.wp_region_mixed (Mixed.late wk) (fun k => k == 18 || k == 19 || k == 20) (by kernel_rfl) (by kernel_rfl) (Mixed.late_of (grown_drew (grown_refl _ _))) ?_
        unfold Mixed.late
        refine Mixed.wpM_quiet rfl rfl rfl ?_; intro Kx hKx; go_big_quiet_op; go_big_quiet_on
        refine wpM_nc rfl rfl _ ⟨tb, 0, none⟩ rfl rfl ?_; go_simp
        refine Mixed.wpM_quiet rfl rfl rfl ?_; intro Kx hKx; go_big_quiet_op; go_big_quiet_on
        refine Mixed.wpM_quiet rfl rfl rfl ?_; intro Kx hKx; go_big_quiet_op; go_big_quiet_on
        refine Mixed.wpM_quiet rfl rfl rfl ?_; intro Kx hKx; go_big_quiet_op; go_big_quiet_on
        refine wpM_nc rfl rfl _ ⟨tb, 0, none⟩ rfl rfl ?_; go_simp
        refine Mixed.wpM_quiet rfl rfl rfl ?_; intro Kx hKx; go_big_quiet_op; go_big_quiet_on
        refine Mixed.wpM_quiet rfl rfl rfl ?_; intro Kx hKx; go_big_quiet_op; go_big_quiet_on
        refine Mixed.wpM_quiet rfl rfl rfl ?_; intro Kx hKx; go_big_quiet_op; go_big_quiet_on
        refine Mixed.wpM_quiet rfl rfl rfl ?_; intro Kx hKx; go_big_quiet_op; go_big_quiet_on
        refine wpM_nc rfl rfl _ ⟨tb, 0, none⟩ rfl rfl ?_; go_simp
        refine Mixed.wpM_quiet rfl rfl rfl ?_; intro Kx hKx; go_big_quiet_op; go_big_quiet_on
        refine Mixed.wpM_quiet rfl rfl rfl ?_; intro Kx hKx; go_big_quiet_op; go_big_quiet_on
        refine Mixed.wpM_quiet rfl rfl rfl ?_; intro Kx hKx; go_big_quiet_op; go_big_quiet_on
        refine Mixed.wpM_quiet rfl rfl rfl ?_; intro Kx hKx; go_big_quiet_op; go_big_quiet_on
        refine Mixed.wpM_quiet rfl rfl rfl ?_; intro Kx hKx; go_big_quiet_op; go_big_quiet_on
        refine Mixed.wpM_quiet rfl rfl rfl ?_; intro Kx hKx; go_big_quiet_op; go_big_quiet_on
        refine Mixed.wpM_quiet rfl rfl rfl ?_; intro Kx hKx; go_big_quiet_op; go_big_quiet_on
        refine Mixed.wpM_call rfl rfl 31 _ (by go_simp; rfl) ?_
        refine (WC.out _ (grown_drew HGK.out)).mono ?_
        rintro ez w5 ⟨v5, rfl, ho5, hg5⟩
        have HG5 : Hid (wk.grownBy w5 none) := grown_trans (grown_drew (grown_refl _ _)) hg5.out
        have HO5 : Hid (w5.ownsRow wk.heap.size 38 5 v5 (q + 1) (flC Tone.cells (insT now ⟨ta, tl, tt, tal, to_⟩))) := ho5.out
        refine ⟨_, rfl, ⟨⟨w5, HG5.out⟩, rfl⟩, ?_⟩
        clear hg5 ho5
        obtain ⟨ao5, c5, rfl⟩ := own_slice HO5.out
        refine Mixed.wpM_make rfl rfl (.slice (some ⟨w5.heap.size, 0, none⟩) 1 1) (w5.alloc (.cells #[.slice ao5 (q + 1) c5] 77)) (by go_simp) ⟨⟨_, grown_alloc HG5.out _⟩, rfl⟩ ?_
        go_simp
        obtain ⟨i0, hi0, hz0, hz1, hz2⟩ := info_parts info77
        have HG6 : Hid (w0.grownBy (w5.alloc (.cells #[.slice ao5 (q + 1) c5] 77)) none) := grown_alloc (grown_trans HGK.out HG5.out) _
        refine wpM_append_grows rfl rfl _ _ 68 rfl 77 i0 (.slice none 0 0) 1 24 Try.underlying68 hi0 hz0 hz1 hz2 rfl (by decide) ⟨vb, 0, none⟩ (at_ + 1) (at_ + 1) (us.take (at_ + 1)) rfl (by rw [List.length_take, HUL.out]; omega) (fun j u hu => by rw [show ((⟨vb, 0, none⟩ : Addr).add j) = ⟨vb, 0 + j, none⟩ from Addr.add_lit _ _ _, Nat.zero_add]; exact grown_cell HG6.out (HUS.out j u (by rw [List.getElem?_take] at hu; split at hu; exact hu; cases hu)) (by simp)) ⟨w5.heap.size, 0, none⟩ 1 1 [.slice ao5 (q + 1) c5] rfl rfl (fun j u hu => by rw [show ((⟨w5.heap.size, 0, none⟩ : Addr).add j) = ⟨w5.heap.size, 0 + j, none⟩ from Addr.add_lit _ _ _, Nat.zero_add]; rw [cell_of (heap_alloc_new _ _), ← Array.getElem?_toList]; exact hu) (by omega) (by unfold maxLen; omega) (by omega) ?_
        intro v7 w7 ho7 hg7
        have HG7 : Hid (w0.grownBy w7 none) := grown_trans HG6.out hg7
        have HV7 : Hid (VsR w7 A v7 (vs.take (at_ + 1) ++ [insT now ⟨ta, tl, tt, tal, to_⟩])) := by
          refine vs_push (n := at_ + 1) (B := (w5.alloc (.cells #[.slice ao5 (q + 1) c5] 77)).heap.size) (by rw [List.length_take, HN.out]; omega) (by rw [List.length_take, HUL.out]; omega) (fun i u l hu hl => ?_) ?_ ho7 (fun b hb => HNEW.out b (Nat.le_trans HG6.out.size hb))
          · rw [List.getElem?_take] at hu hl
            split at hu
            · rename_i hi
              rw [if_pos hi] at hl
              exact (HUT.out i u l hu hl).grown HG7.out
            · cases hu
          · have hL : (insT now ⟨ta, tl, tt, tal, to_⟩).length = q + 1 := by rw [ins_len, HQ.out]
            have h5 : w5.ownsRow wk.heap.size 38 5 (.slice ao5 (q + 1) c5) (insT now ⟨ta, tl, tt, tal, to_⟩).length (flC Tone.cells (insT now ⟨ta, tl, tt, tal, to_⟩)) := by rw [hL]; exact HO5.out
            have h6 := sla_of_own tone_len h5 A (fun b hb => HNEW.out b (Nat.le_trans HGK.out.size (own_base h5 hb).1))
            exact (h6.grown (grown_alloc (grown_refl _ _) _)).grown hg7
        obtain ⟨ao7, c7, rfl⟩ := own_slice ho7
        refine ⟨⟨⟨w7, grown_trans (grown_alloc HG5.out _) hg7⟩, rfl⟩, ?_⟩
        clear ho7 hg7
        go_simp
        refine Mixed.wpM_quiet rfl rfl rfl ?_; intro Kx hKx; go_big_quiet_op; go_big_quiet_on
        refine wpM_nc rfl rfl _ ⟨tb, 0, none⟩ rfl rfl ?_; go_simp
        refine Mixed.wpM_quiet rfl rfl rfl ?_; intro Kx hKx; go_big_quiet_op; go_big_quiet_on
        refine Mixed.wpM_quiet rfl rfl rfl ?_; intro Kx hKx; go_big_quiet_op; go_big_quiet_on
        refine Mixed.wpM_quiet rfl rfl rfl ?_; intro Kx hKx; go_big_quiet_op; go_big_quiet_on
        refine Mixed.wpM_quiet rfl rfl rfl ?_; intro Kx hKx; go_big_quiet_op; go_big_quiet_on
        refine Mixed.wpM_quiet rfl rfl rfl ?_; intro Kx hKx; go_big_quiet_op; go_big_quiet_on
        refine Mixed.wpM_quiet rfl rfl rfl ?_; intro Kx hKx; go_big_quiet_op; go_big_quiet_on
        refine Mixed.wpM_nil ?_
        intro nx hnx
        clear nx hnx k1 k2 e1 e2 e3 e4 e5 e6 hne
        go_wp2_with fail
        go_ret3
        exact ⟨_, _, _, _, by rw [HE0.out]; rfl, (fun h => ⟨by rw [HNX.out]; rfl, by rw [HNX.out]; exact HV7.out⟩), HG7.out⟩
    · have HE : Hid (errE ⟨vs, at_⟩ ⟨1, N, ⟨ta, tl, tt, tal, to_⟩⟩ = R) := by unfold Hid; rw [HERR.out, if_pos hR0]
      go_wp2_with (go_at_call 30; refine (W1.out _).mono ?_; rintro ez w3 ⟨rfl, hg3⟩)
      go_ret3
      exact ⟨_, _, _, _, by rw [HE.out]; rfl, (fun h => absurd (HE.out.symm.trans h) hR0), grown_trans (grown_alloc HGQ.out _) hg3.out⟩
  by_cases hD2 : D = 2
  · subst hD2
    have HERR : Hid (errE ⟨vs, at_⟩ ⟨2, N, ⟨ta, tl, tt, tal, to_⟩⟩ = if N < 0 ∨ (q : Int) ≤ N then 3 else 0) := by
      unfold Hid errE
      rw [HNW.out, HQ.out]
      rfl
    have HNX : Hid (nextE ⟨vs, at_⟩ ⟨2, N, ⟨ta, tl, tt, tal, to_⟩⟩ = ⟨vs.take (at_ + 1) ++ [now.eraseIdx N.toNat], at_ + 1⟩) := by
      unfold Hid nextE
      rw [HNW.out]
      rfl
    by_cases hN : N < 0 ∨ (q : Int) ≤ N
    · have HE : Hid (errE ⟨vs, at_⟩ ⟨2, N, ⟨ta, tl, tt, tal, to_⟩⟩ = 3) := by unfold Hid; rw [HERR.out, if_pos hN]
      have hN2 : N < 0 ∨ (¬ N < 0 ∧ (q : Int) ≤ N) := by omega
      clear hN
      rcases hN2 with h | ⟨h, h2⟩
      all_goals
        go_wp2_with fail
        go_ret3
        exact ⟨_, _, _, _, by rw [HE.out]; rfl, (fun h => absurd (HE.out.symm.trans h) (by decide)), HGQ.out⟩
    · have h1 : ¬ N < 0 := by omega
      have h2 : ¬ (q : Int) ≤ N := by omega
      go_wp2_with fail
      obtain ⟨z, hz⟩ : ∃ z : Nat, N = (z : Int) := ⟨N.toNat, by omega⟩
      subst hz
      have hzq : z < q := by omega
      have HE0 : Hid (errE ⟨vs, at_⟩ ⟨2, (z : Int), ⟨ta, tl, tt, tal, to_⟩⟩ = 0) := by unfold Hid; rw [HERR.out, if_neg hN]
      simp only [Int.toNat_natCast] at HNX
      have WC := Lib.hid (fun (w' : World) (h1 : w0.grownBy w' none) => clone_calls ao c now w' (by rw [HQ.out]; exact (HT.out.tos.grown h1)) (by rw [HQ.out]; omega))
      simp only [HQ.out] at WC
      have hz1 : IntKind.i64.wrap ((z : Int) + 1) = (z : Int) + 1 := IntWalk.i64_in _ (by omega)
      have HLE : Hid ((now.eraseIdx z).length = q - 1) := by unfold Hid; rw [List.length_eraseIdx, HQ.out, if_pos hzq]
      clear hN h1 h2
      obtain ⟨wk, rfl⟩ : ∃ wk : World, wk = wq := ⟨_, rfl⟩
      have HGK : Hid (w0.grownBy wk none) := HGQ.out
      have HRK : Hid (wk.heap[eb]? = some (.cells #[.int .i64 2, .int .i64 (z : Int), .int .i64 ta, .int .i64 tl, .int .i64 tt, .int .i64 tal, .int .i64 to_] 40 (0, 0))) := HRQ.out
      have hne := Mixed.Later.nonempty wk
      have k1 : ∀ n2 : Mixed.Later wk, n2.w.cell? ⟨tb, 1, none⟩ = some (.slice (some ⟨vb, 0, none⟩) n vc) := Mixed.Later.cell (p1)
      have k2 : ∀ n2 : Mixed.Later wk, n2.w.cell? ⟨tb, 2, none⟩ = some (.int .i64 (at_ : Int)) := Mixed.Later.cell (p2)
      have e1 : ∀ n2 : Mixed.Later wk, n2.w.cell? ⟨eb, 1, none⟩ = some (.int .i64 (z : Int)) := Mixed.Later.cell (cell_of HRK.out 1)
      have e2 : ∀ n2 : Mixed.Later wk, n2.w.cell? ⟨eb, 2, none⟩ = some (.int .i64 ta) := Mixed.Later.cell (cell_of HRK.out 2)
      have e3 : ∀ n2 : Mixed.Later wk, n2.w.cell? ⟨eb, 3, none⟩ = some (.int .i64 tl) := Mixed.Later.cell (cell_of HRK.out 3)
      have e4 : ∀ n2 : Mixed.Later wk, n2.w.cell? ⟨eb, 4, none⟩ = some (.int .i64 tt) := Mixed.Later.cell (cell_of HRK.out 4)
      have e5 : ∀ n2 : Mixed.Later wk, n2.w.cell? ⟨eb, 5, none⟩ = some (.int .i64 tal) := Mixed.Later.cell (cell_of HRK.out 5)
      have e6 : ∀ n2 : Mixed.Later wk, n2.w.cell? ⟨eb, 6, none⟩ = some (.int .i64 to_) := Mixed.Later.cell (cell_of HRK.out 6)
      have hwa : IntKind.i64.wrap ((at_ : Int) + 1) = ((at_ + 1 : Nat) : Int) := by rw [IntWalk.i64_in _ (by omega)]; omega
      have hca : at_ + 1 ≤ vc := by omega
      have hca2 : ((at_ + 1 : Nat) : Int) ≤ (vc : Int) := by omega
      clear b0 b1 b2 b3 b4 b5 b6 p1 p2
      refine Mixed.wp_region_mixed (Mixed.late wk) (fun k => k == 16 || k == 22 || k == 23 || k == 24) (by kernel_rfl) (by kernel_rfl) (Mixed.late_of (grown_drew (grown_refl _ _))) ?_
      unfold Mixed.late
      refine Mixed.wpM_quiet rfl rfl rfl ?_; intro Kx hKx; go_big_quiet_op; go_big_quiet_on
      refine wpM_nc rfl rfl _ ⟨tb, 0, none⟩ rfl rfl ?_; go_simp
      refine Mixed.wpM_quiet rfl rfl rfl ?_; intro Kx hKx; go_big_quiet_op; go_big_quiet_on
      refine Mixed.wpM_quiet rfl rfl rfl ?_; intro Kx hKx; go_big_quiet_op; go_big_quiet_on
      refine Mixed.wpM_quiet rfl rfl rfl ?_; intro Kx hKx; go_big_quiet_op; go_big_quiet_on
      refine wpM_nc rfl rfl _ ⟨tb, 0, none⟩ rfl rfl ?_; go_simp
      refine Mixed.wpM_quiet rfl rfl rfl ?_; intro Kx hKx; go_big_quiet_op; go_big_quiet_on
      refine Mixed.wpM_quiet rfl rfl rfl ?_; intro Kx hKx; go_big_quiet_op; go_big_quiet_on
      refine Mixed.wpM_quiet rfl rfl rfl ?_; intro Kx hKx; go_big_quiet_op; go_big_quiet_on
      refine Mixed.wpM_quiet rfl rfl rfl ?_; intro Kx hKx; go_big_quiet_op; go_big_quiet_on
      refine wpM_nc rfl rfl _ ⟨tb, 0, none⟩ rfl rfl ?_; go_simp
      refine Mixed.wpM_quiet rfl rfl rfl ?_; intro Kx hKx; go_big_quiet_op; go_big_quiet_on
      refine Mixed.wpM_quiet rfl rfl rfl ?_; intro Kx hKx; go_big_quiet_op; go_big_quiet_on
      refine Mixed.wpM_quiet rfl rfl rfl ?_; intro Kx hKx; go_big_quiet_op; go_big_quiet_on
      refine Mixed.wpM_quiet rfl rfl rfl ?_; intro Kx hKx; go_big_quiet_op; go_big_quiet_on
      refine Mixed.wpM_quiet rfl rfl rfl ?_; intro Kx hKx; go_big_quiet_op; go_big_quiet_on
      refine Mixed.wpM_call rfl rfl 27 _ (by go_simp; rfl) ?_
      refine (WC.out _ (grown_drew HGK.out)).mono ?_
      rintro ez w4 ⟨v4, rfl, ho4, hg4⟩
      have HG4 : Hid (wk.grownBy w4 none) := grown_trans (grown_drew (grown_refl _ _)) hg4.out
      have HO4 : Hid (w4.ownsRow wk.heap.size 38 5 v4 q (flC Tone.cells now)) := ho4.out
      clear hg4 ho4
      obtain ⟨ao4, c4, rfl⟩ := own_slice HO4.out
      obtain ⟨g4, cur4, rfl, hgb4, hgh4, hgn4, hgc4, hgs4, hgx4⟩ := own_row HO4.out (by omega)
      have HB4 := Lib.hid hgb4
      have HH4 := Lib.hid (lt_of hgh4)
      have WD := Lib.hid (del_calls g4 c4 q z cur4 now w4 HQ.out hzq hgn4 hgc4 hgh4 hgs4 hgx4)
      have hm4 := hgc4
      clear hgh4 hgs4 hgx4 HO4 hgb4
      refine ⟨_, rfl, ⟨⟨w4, HG4.out⟩, rfl⟩, ?_⟩
      go_simp
      refine Mixed.wpM_quiet rfl rfl rfl ?_; intro Kx hKx; go_big_quiet_op; go_big_quiet_on
      refine Mixed.wpM_quiet rfl rfl rfl ?_; intro Kx hKx; go_big_quiet_op; go_big_quiet_on
      refine Mixed.wpM_quiet rfl rfl rfl ?_; intro Kx hKx; go_big_quiet_op; go_big_quiet_on
      refine Mixed.wpM_quiet rfl rfl rfl ?_; intro Kx hKx; go_big_quiet_op; go_big_quiet_on
      refine Mixed.wpM_quiet rfl rfl rfl ?_; intro Kx hKx; go_big_quiet_op; go_big_quiet_on
      refine Mixed.wpM_call rfl rfl 32 _ (by go_simp; rfl) ?_
      refine (WD.out).mono ?_
      rintro ez w5 ⟨rfl, hg5, ho5⟩
      have HG5 : Hid (wk.grownBy w5 none) := grown_from HG4.out hg5.out (.inl HB4.out)
      have HO5 : Hid (w5.ownsRow wk.heap.size 38 5 (.slice (some ⟨g4, 0, none⟩) (q - 1) c4) (q - 1) (flC Tone.cells (now.eraseIdx z))) := by
        obtain ⟨cur5, h5, h6, h7⟩ := ho5.out
        exact own_of_row HB4.out h5 (by omega) hm4 h6 (by rw [flC_len tone_len, HLE.out]) h7
      refine ⟨_, rfl, ⟨⟨w5, HG5.out⟩, rfl⟩, ?_⟩
      clear hg5 ho5
      refine Mixed.wpM_make rfl rfl (.slice (some ⟨w5.heap.size, 0, none⟩) 1 1) (w5.alloc (.cells #[.slice (some ⟨g4, 0, none⟩) (q - 1) c4] 77)) (by go_simp) ⟨⟨_, grown_alloc HG5.out _⟩, rfl⟩ ?_
      go_simp
      obtain ⟨i0, hi0, hz0, hz1, hz2⟩ := info_parts info77
      have HG6 : Hid (w0.grownBy (w5.alloc (.cells #[.slice (some ⟨g4, 0, none⟩) (q - 1) c4] 77)) none) := grown_alloc (grown_trans HGK.out HG5.out) _
      refine wpM_append_grows rfl rfl _ _ 68 rfl 77 i0 (.slice none 0 0) 1 24 Try.underlying68 hi0 hz0 hz1 hz2 rfl (by decide) ⟨vb, 0, none⟩ (at_ + 1) (at_ + 1) (us.take (at_ + 1)) rfl (by rw [List.length_take, HUL.out]; omega) (fun j u hu => by rw [show ((⟨vb, 0, none⟩ : Addr).add j) = ⟨vb, 0 + j, none⟩ from Addr.add_lit _ _ _, Nat.zero_add]; exact grown_cell HG6.out (HUS.out j u (by rw [List.getElem?_take] at hu; split at hu; exact hu; cases hu)) (by simp)) ⟨w5.heap.size, 0, none⟩ 1 1 [.slice (some ⟨g4, 0, none⟩) (q - 1) c4] rfl rfl (fun j u hu => by rw [show ((⟨w5.heap.size, 0, none⟩ : Addr).add j) = ⟨w5.heap.size, 0 + j, none⟩ from Addr.add_lit _ _ _, Nat.zero_add]; rw [cell_of (heap_alloc_new _ _), ← Array.getElem?_toList]; exact hu) (by omega) (by unfold maxLen; omega) (by omega) ?_
      intro v7 w7 ho7 hg7
      have HG7 : Hid (w0.grownBy w7 none) := grown_trans HG6.out hg7
      have HV7 : Hid (VsR w7 A v7 (vs.take (at_ + 1) ++ [now.eraseIdx z])) := by
        refine vs_push (n := at_ + 1) (B := (w5.alloc (.cells #[.slice (some ⟨g4, 0, none⟩) (q - 1) c4] 77)).heap.size) (by rw [List.length_take, HN.out]; omega) (by rw [List.length_take, HUL.out]; omega) (fun i u l hu hl => ?_) ?_ ho7 (fun b hb => HNEW.out b (Nat.le_trans HG6.out.size hb))
        · rw [List.getElem?_take] at hu hl
          split at hu
          · rename_i hi
            rw [if_pos hi] at hl
            exact (HUT.out i u l hu hl).grown HG7.out
          · cases hu
        · have hL : (now.eraseIdx z).length = q - 1 := by rw [HLE.out]
          have h5 : w5.ownsRow wk.heap.size 38 5 (.slice (some ⟨g4, 0, none⟩) (q - 1) c4) (now.eraseIdx z).length (flC Tone.cells (now.eraseIdx z)) := by rw [hL]; exact HO5.out
          have h6 := sla_of_own tone_len h5 A (fun b hb => HNEW.out b (Nat.le_trans HGK.out.size (own_base h5 hb).1))
          exact (h6.grown (grown_alloc (grown_refl _ _) _)).grown hg7
      obtain ⟨ao7, c7, rfl⟩ := own_slice ho7
      refine ⟨⟨⟨w7, grown_trans (grown_alloc HG5.out _) hg7⟩, rfl⟩, ?_⟩
      clear ho7 hg7
      go_simp
      refine Mixed.wpM_quiet rfl rfl rfl ?_; intro Kx hKx; go_big_quiet_op; go_big_quiet_on
      refine wpM_nc rfl rfl _ ⟨tb, 0, none⟩ rfl rfl ?_; go_simp
      refine Mixed.wpM_quiet rfl rfl rfl ?_; intro Kx hKx; go_big_quiet_op; go_big_quiet_on
      refine Mixed.wpM_quiet rfl rfl rfl ?_; intro Kx hKx; go_big_quiet_op; go_big_quiet_on
      refine Mixed.wpM_quiet rfl rfl rfl ?_; intro Kx hKx; go_big_quiet_op; go_big_quiet_on
      refine Mixed.wpM_quiet rfl rfl rfl ?_; intro Kx hKx; go_big_quiet_op; go_big_quiet_on
      refine Mixed.wpM_quiet rfl rfl rfl ?_; intro Kx hKx; go_big_quiet_op; go_big_quiet_on
      refine Mixed.wpM_quiet rfl rfl rfl ?_; intro Kx hKx; go_big_quiet_op; go_big_quiet_on
      refine Mixed.wpM_nil ?_
      intro nx hnx
      clear nx hnx k1 k2 e1 e2 e3 e4 e5 e6 hne
      go_wp2_with fail
      go_ret3
      exact ⟨_, _, _, _, by rw [HE0.out]; rfl, (fun h => ⟨by rw [HNX.out]; rfl, by rw [HNX.out]; exact HV7.out⟩), HG7.out⟩
  have HVS : Hid (VsR w0 A (.slice (some ⟨vb, 0, none⟩) n vc) vs) := ⟨vb, vc, us, by rw [HN.out], by rw [HN.out]; exact hcap, HAB.out, by rw [HN.out]; exact HUL.out, HUS.out, HUT.out⟩
  by_cases hD3 : D = 3
  · subst hD3
    have HERR : Hid (errE ⟨vs, at_⟩ ⟨3, N, ⟨ta, tl, tt, tal, to_⟩⟩ = if at_ = 0 then 6 else 0) := rfl
    have HNX : Hid (nextE ⟨vs, at_⟩ ⟨3, N, ⟨ta, tl, tt, tal, to_⟩⟩ = ⟨vs, at_ - 1⟩) := rfl
    by_cases ha : at_ = 0
    · have HE : Hid (errE ⟨vs, at_⟩ ⟨3, N, ⟨ta, tl, tt, tal, to_⟩⟩ = 6) := by unfold Hid; rw [HERR.out, if_pos ha]
      subst ha
      go_wp2_with fail
      go_ret3
      exact ⟨_, _, _, _, by rw [HE.out]; rfl, (fun h => absurd (HE.out.symm.trans h) (by decide)), HGQ.out⟩
    · have HE : Hid (errE ⟨vs, at_⟩ ⟨3, N, ⟨ta, tl, tt, tal, to_⟩⟩ = 0) := by unfold Hid; rw [HERR.out, if_neg ha]
      have ha2 : ¬ (at_ : Int) = 0 := by omega
      go_wp2_with fail
      go_quiet (fail)
      go_wp2_with fail
      go_ret3
      exact ⟨_, _, _, _, by rw [HE.out]; rfl, (fun h => ⟨by rw [HNX.out]; simp only; omega, by rw [HNX.out]; exact HVS.out.grown (grown_drewN HGQ.out _)⟩), grown_drewN HGQ.out _⟩
  by_cases hD4 : D = 4
  · subst hD4
    have HERR : Hid (errE ⟨vs, at_⟩ ⟨4, N, ⟨ta, tl, tt, tal, to_⟩⟩ = if at_ + 1 = n then 6 else 0) := by
      unfold Hid errE
      rw [HN.out]
      rfl
    have HNX : Hid (nextE ⟨vs, at_⟩ ⟨4, N, ⟨ta, tl, tt, tal, to_⟩⟩ = ⟨vs, at_ + 1⟩) := rfl
    by_cases ha : at_ + 1 = n
    · have HE : Hid (errE ⟨vs, at_⟩ ⟨4, N, ⟨ta, tl, tt, tal, to_⟩⟩ = 6) := by unfold Hid; rw [HERR.out, if_pos ha]
      have ha2 : (at_ : Int) + 1 = (n : Int) := by omega
      have ha3 := Lib.hid ha2
      clear ha ha2
      have hwa : IntKind.i64.wrap ((at_ : Int) + 1) = (n : Int) := by rw [IntWalk.i64_in _ (by omega)]; exact ha3.out
      go_wp2_with fail
      go_quiet (fail)
      go_wp2_with fail
      go_ret3
      exact ⟨_, _, _, _, by rw [HE.out]; rfl, (fun h => absurd (HE.out.symm.trans h) (by decide)), grown_drewN HGQ.out _⟩
    · have HE : Hid (errE ⟨vs, at_⟩ ⟨4, N, ⟨ta, tl, tt, tal, to_⟩⟩ = 0) := by unfold Hid; rw [HERR.out, if_neg ha]
      have ha2 : ¬ ((at_ : Int) + 1 = (n : Int)) := by omega
      go_wp2_with fail
      go_quiet (fail)
      go_wp2_with fail
      go_quiet (fail)
      go_wp2_with fail
      go_ret3
      exact ⟨_, _, _, _, by rw [HE.out]; rfl, (fun h => ⟨by rw [HNX.out]; simp only; omega, by rw [HNX.out]; exact HVS.out.grown (grown_drewN (grown_drewN HGQ.out _) _)⟩), grown_drewN (grown_drewN HGQ.out _) _⟩
  · have HE : Hid (errE ⟨vs, at_⟩ ⟨D, N, ⟨ta, tl, tt, tal, to_⟩⟩ = 1) := by
      unfold Hid errE
      rw [if_neg hD1, if_neg hD2, if_neg hD3, if_neg hD4]
    go_wp2_with fail
    go_ret3
    exact ⟨_, _, _, _, by rw [HE.out]; rfl, (fun h => absurd (HE.out.symm.trans h) (by decide)), HGQ.out⟩
end Go.Proofs.Ytdnmimfichijgaa.KNext
