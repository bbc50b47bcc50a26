/- The reference's samples: at, ready, sample. -/
import Derived.Test.YtdliilmnfbgplaaGRWrong
import Derived.Test.YtdliilmnfbgplaaGRAllP
namespace Go.Proofs.Ytdliilmnfbgplaa.GRSamp
open Go Go.RowKit Go.Proofs.Ytdliilmnfbgplaa.Fl Go.Proofs.Ytdliilmnfbgplaa.Fw Go.Proofs.Ytdliilmnfbgplaa.GRd Go.Proofs.Ytdliilmnfbgplaa.GCells Go.Proofs.Ytdliilmnfbgplaa.GStep Go.Proofs.Ytdliilmnfbgplaa.GMod Go.Proofs.Ytdliilmnfbgplaa.GMem Go.Proofs.Ytdliilmnfbgplaa.GNode Go.Proofs.Ytdliilmnfbgplaa.GPMem Go.Proofs.Ytdliilmnfbgplaa.GOuts Go.Proofs.Ytdliilmnfbgplaa.GSub Go.Proofs.Ytdliilmnfbgplaa.GMade Go.Proofs.Ytdliilmnfbgplaa.GNewF Go.Proofs.Ytdliilmnfbgplaa.GRNode Go.Proofs.Ytdliilmnfbgplaa.GRAllP Go.Proofs.Ytdliilmnfbgplaa.Hp Go.Proofs.Ytdliilmnfbgplaa.Rd Go.Proofs.Ytdliilmnfbgplaa.Opn
set_option linter.unusedVariables false
set_option linter.unusedSimpArgs false

theorem outs_at {w : World} {B ub : Nat} {vs : List Value} {Q : List (List Nat)} (h : OutsR w B ub vs Q) {i : Nat} {l : List Nat} (hl : Q[i]? = some l) :
    ∃ a c, vs[i]? = some (.slice a l.length c) ∧ w.cell? ⟨ub, i, none⟩ = some (.slice a l.length c) ∧ ∀ t y, l[t]? = some y → ∃ b z, a = some ⟨b, 0, none⟩ ∧ w.cell? ⟨b, t, none⟩ = some (.float .f64 z) ∧ cn z = y := by
  have hi : i < vs.length := by rw [h.len]; exact (List.getElem?_eq_some_iff.1 hl).1
  obtain ⟨v, hv⟩ : ∃ v, vs[i]? = some v := ⟨vs[i], List.getElem?_eq_getElem _⟩
  obtain ⟨ys, h1, rfl⟩ := h.val i v l hv hl
  obtain ⟨a, c, rfl⟩ := own_slice h1
  rw [List.length_map]
  refine ⟨a, c, hv, by rw [cell_of h.cell]; simpa using hv, fun t y hy => ?_⟩
  rw [List.getElem?_map] at hy
  cases hz : ys[t]? with
  | none => rw [hz] at hy; cases hy
  | some z =>
    rw [hz] at hy
    simp at hy
    obtain ⟨b, rfl, _, _, _, hc⟩ := own_at fC_len h1 rfl hz
    have := hc 0 _ rfl
    rw [Nat.mul_one, Nat.add_zero] at this
    exact ⟨b, z, rfl, this, hy⟩

theorem cn0 : cn 0 = 0 := by decide +kernel
theorem at_val {w : World} {B ub : Nat} {vs : List Value} {Q : List (List Nat)} {N : Nat} (hQ : OutsR w B ub vs Q) (hN : Q.length = N) {f : Nat} (hf : f < N) {t : Int} (ht : t < ((Q.getD f []).length : Int)) :
    ∃ z, cn z = atP Q f t ∧ Hid (∀ v, Fr (fun _ => False) w v → Calls Try.prog 30 #[.slice (some ⟨ub, 0, none⟩) N N, .int .i64 (f : Int), .int .i64 t] v fun e w' => e = .returned (.float .f64 z) ∧ w' = v) := by
  obtain ⟨l, hl⟩ : ∃ l, Q[f]? = some l := ⟨Q[f]'(by omega), List.getElem?_eq_getElem _⟩
  have hg : Q.getD f [] = l := by rw [List.getD_eq_getElem?_getD, hl]; rfl
  rw [hg] at ht
  obtain ⟨a, c, _, hc, hy⟩ := outs_at hQ hl
  by_cases h0 : t < 0
  · refine ⟨0, by rw [atP_neg h0]; exact cn0, fun v hv => ?_⟩
    have := past_calls ub 0 N N a l.length c f t 0 v (by rw [Nat.zero_add]; exact hv.cell hc id) hf (.inl h0)
    rw [if_pos h0] at this
    exact this
  · obtain ⟨k, rfl⟩ : ∃ k : Nat, t = (k : Int) := Int.eq_ofNat_of_zero_le (by omega)
    obtain ⟨y, hy1⟩ : ∃ y, l[k]? = some y := ⟨l[k]'(by omega), List.getElem?_eq_getElem _⟩
    obtain ⟨b, z, rfl, hz, hzy⟩ := hy k y hy1
    refine ⟨z, ?_, fun v hv => ?_⟩
    · unfold atP
      rw [if_neg h0, hg, Int.toNat_natCast, List.getD_eq_getElem?_getD, hy1]
      exact hzy
    · have := past_calls ub 0 N N (some ⟨b, 0, none⟩) l.length c f (k : Int) z v (by rw [Nat.zero_add]; exact hv.cell hc id) hf (.inr ⟨b, 0, k, rfl, by omega, rfl, by rw [Nat.zero_add]; exact hv.cell hz id⟩)
      rw [if_neg h0] at this
      exact this

/-- Has everything that it listens to now made its sample? -/
def readyB (Q : List (List Nat)) (x : Nd) (t : Nat) : Bool := decide (x.kind = 6) || x.from_.all fun k => decide (t < (Q.getD k.toNat []).length)

set_option maxHeartbeats 2000000 in
set_option maxRecDepth 100000 in
theorem ready_calls (A : Nat → Prop) (g : Gd) (na oa : Option Addr) (nc oc : Nat) (B ub : Nat) (vs : List Value) (Q : List (List Nat)) (i t : Nat) (x : Nd) (w : World) (hnd : NdsR w A (.slice na g.nodes.length nc) g.nodes) (hx : g.nodes[i]? = some x) (hfl : x.from_.length ≤ 1048576)
    (hr : ∀ k ∈ x.from_, 0 ≤ k ∧ k < (g.nodes.length : Int)) (hQ : OutsR w B ub vs Q) (hQl : Q.length = g.nodes.length) :
    Calls Try.prog 18 #[gdV g.ins (.slice na g.nodes.length nc) (.slice oa g.outs.length oc), .slice (some ⟨ub, 0, none⟩) g.nodes.length g.nodes.length, .int .i64 (i : Int), .int .i64 (t : Int)] w fun e w' => e = .returned (.bool (readyB Q x t)) ∧ Hid (w.grownBy w' none) := by
  obtain ⟨N, hN⟩ : ∃ N, g.nodes.length = N := ⟨_, rfl⟩
  obtain ⟨M, hM⟩ : ∃ M, g.outs.length = M := ⟨_, rfl⟩
  obtain ⟨ins, hins⟩ : ∃ ins, g.ins = ins := ⟨_, rfl⟩
  unfold gdV
  have hi : i < N := by rw [← hN]; exact (List.getElem?_eq_some_iff.1 hx).1
  rw [hN] at hnd hr hQl ⊢
  rw [hM, hins]
  obtain ⟨b6, o6, fa, fc, rfl, hA6, hrg, d1, hfs⟩ := nds_at hnd hx
  have d0 := hrg 0 _ rfl
  rw [Nat.add_zero] at d0
  obtain ⟨F, hF⟩ : ∃ F, x.from_.length = F := ⟨_, rfl⟩
  have HRE : Hid (∀ b, (decide (x.kind = 6) || x.from_.all fun k => decide (t < (Q.getD k.toNat []).length)) = b → readyB Q x t = b) := fun b h => h
  obtain ⟨kind, fr, n, xx, co, pt⟩ := x
  dsimp only at hfs hfl hr hF d0 d1 HRE
  rw [hF] at hfs hfl d1
  have HF := Lib.hid hF
  have HFS := Lib.hid hfs
  have HRX := Lib.hid hr
  have HQ := Lib.hid hQ
  have HQL := Lib.hid hQl
  obtain ⟨RB, hRB⟩ : ∃ RB, readyB Q ⟨kind, fr, n, xx, co, pt⟩ t = RB := ⟨_, rfl⟩
  rw [hRB] at HRE ⊢
  have hil : (i : Int) < (N : Int) := by omega
  have HG1 : Hid (w.grownBy (w.alloc (.cells #[.int .i64 ins, .slice (some ⟨b6, o6, none⟩) N nc, .slice oa M oc] 25)) none) := grown_alloc (grown_refl _ _) _
  have HAB : Hid ((w.alloc (.cells #[.int .i64 ins, .slice (some ⟨b6, o6, none⟩) N nc, .slice oa M oc] 25)).heap[w.heap.size]? = some (.cells #[.int .i64 ins, .slice (some ⟨b6, o6, none⟩) N nc, .slice oa M oc] 25 (0, 0))) := heap_alloc_new _ _
  clear hnd hx hr hQ hQl hrg hfs hF hN hM hins hRB
  go_enter Try.func18, Try.ntmps18
  go_upto_region 1 with fail
  obtain ⟨wa, hwa⟩ : ∃ wa, w.alloc (.cells #[.int .i64 ins, .slice (some ⟨b6, o6, none⟩) N nc, .slice oa M oc] 25) = wa := ⟨_, rfl⟩
  obtain ⟨aB, haB⟩ : ∃ aB, w.heap.size = aB := ⟨_, rfl⟩
  rw [hwa] at HG1 HAB
  rw [haB] at HAB
  simp only [hwa, haB]
  clear hwa haB
  have e1 := cell_of HAB.out 1
  replace d0 := grown_cell HG1.out d0 (by simp)
  replace d1 := grown_cell HG1.out d1 (by simp)
  by_cases hk6 : kind = 6
  · have HE : Hid (RB = true) := HRE.out true (by simp [hk6]) |>.symm ▸ rfl
    subst hk6
    go_wp2_with fail
    go_ret
    exact ⟨by rw [HE.out]; rfl, HG1.out⟩
  have hk6b : (kind == 6) = false := by simpa using hk6
  go_upto_region 4 with fail
  go_loopw [10, 25] (fun v10 v25 wr => ∃ q : Nat, q ≤ F ∧ v25 = .int .i64 (q : Int) ∧ wa = wr ∧ Hid ((fr.take q).all (fun k => decide (t < (Q.getD k.toNat []).length)) = true)) (fun _ v25 _ => F - (intOf v25).toNat)
  case atStart => exact ⟨0, Nat.zero_le _, rfl, rfl, rfl⟩
  case round =>
    obtain ⟨q, hq, rfl, hwr, HAL⟩ := hrel
    subst hwr
    by_cases hqF : q = F
    · have HE : Hid (RB = true) := by
        have h := HAL.out
        rw [List.take_of_length_le (Nat.le_of_eq (by rw [HF.out, hqF]))] at h
        exact HRE.out true (by rw [h]; simp)
      have h2 := hqF.symm
      subst h2
      clear hqF
      go_wp2_with fail
      go_ret
      exact ⟨by rw [HE.out]; rfl, HG1.out⟩
    have hql : (q : Int) < (F : Int) := by omega
    have hql2 : q < F := by omega
    have hwq : IntKind.i64.wrap ((q : Int) + 1) = (q : Int) + 1 := IntWalk.i64_in _ (by omega)
    obtain ⟨kz, hkz⟩ : ∃ kz, fr[q]? = some kz := ⟨fr[q]'(by rw [HF.out]; exact hql2), List.getElem?_eq_getElem _⟩
    have hzr := HRX.out kz (List.mem_of_getElem? hkz)
    obtain ⟨kn, rfl⟩ : ∃ kn : Nat, kz = (kn : Int) := Int.eq_ofNat_of_zero_le hzr.1
    have hzr1 := hzr.1
    have hzr2 := hzr.2
    have hkn : kn < N := by omega
    obtain ⟨b7, o7, rfl, hA7, hcell⟩ := sla_at HFS.out hkz
    have u1 := grown_cell HG1.out (hcell 0 _ rfl) (by simp)
    rw [Nat.mul_one, Nat.add_zero] at u1
    obtain ⟨l, hl⟩ : ∃ l, Q[kn]? = some l := ⟨Q[kn]'(by rw [HQL.out]; exact hkn), List.getElem?_eq_getElem _⟩
    obtain ⟨a, c, _, hc, _⟩ := outs_at HQ.out hl
    have u2 := grown_cell HG1.out hc (by simp)
    have hgl : Q.getD kn [] = l := by rw [List.getD_eq_getElem?_getD, hl]; rfl
    obtain ⟨L, hL⟩ : ∃ L, l.length = L := ⟨_, rfl⟩
    rw [hL] at u2
    have HKZ := Lib.hid hkz
    have HGL : Hid ((Q.getD kn []).length = L) := by unfold Hid; rw [hgl, hL]
    clear hcell hkz hl hc hgl hL hzr
    by_cases hLt : L ≤ t
    · have HE : Hid (RB = false) := HRE.out false (by
        rw [decide_eq_false hk6, Bool.false_or, List.all_eq_false]
        refine ⟨(kn : Int), List.mem_of_getElem? HKZ.out, ?_⟩
        rw [Int.toNat_natCast, HGL.out]
        simp
        omega)
      have hLt2 : (L : Int) ≤ (t : Int) := by omega
      go_wp2_with fail
      go_ret
      exact ⟨by rw [HE.out]; rfl, HG1.out⟩
    · have hLt2 : ¬ (L : Int) ≤ (t : Int) := by omega
      have HAN : Hid ((fr.take (q + 1)).all (fun k => decide (t < (Q.getD k.toNat []).length)) = true) := by
        unfold Hid
        rw [GPiece.take_next HKZ.out, List.all_append, HAL.out]
        simp only [List.all_cons, List.all_nil, Int.toNat_natCast, HGL.out, Bool.and_true, Bool.true_and]
        exact decide_eq_true (by omega)
      go_wp2_with fail
      refine ⟨?_, by simp [intOf]; omega⟩
      first
        | exact ⟨q + 1, by omega, rfl, trivial, HAN.out⟩
        | (repeat apply Exists.intro
           refine ⟨?_, rfl⟩
           exact ⟨q + 1, by omega, rfl, trivial, HAN.out⟩)

/-- A sample is told. -/
def SampP (w : World) (c : Nat) (e : Ending) (w' : World) : Prop := ∃ y, e = .returned (.float .f64 y) ∧ cn y = c ∧ Hid (w.grownBy w' none)
theorem mul_at {b z a : Nat} (h : cn z = a) : fmul b z = fmul b a := fmul_eq rfl (by rw [← h, cn_cn])
theorem sum_snoc (l : List Nat) (b : Nat) : GRAllP.sumN (l ++ [b]) = if l = [] then b else fadd (GRAllP.sumN l) b := by
  cases l with
  | nil => rfl
  | cons a l => rw [if_neg (by simp)]; simp [GRAllP.sumN, List.foldl_append]

set_option maxHeartbeats 8000000 in
set_option maxRecDepth 100000 in
theorem sample_calls (A : Nat → Prop) (g : Gd) (na oa ia : Option Addr) (nc oc ic : Nat) (ls : List (List Nat)) (B ub : Nat) (vs : List Value) (Q : List (List Nat)) (i t : Nat) (x : Nd) (w : World) (hnd : NdsR w A (.slice na g.nodes.length nc) g.nodes) (hx : g.nodes[i]? = some x) (hm : madeE g x = 0) (hfl : x.from_.length ≤ 1048576) (hst : x.pt.step < 4294967296)
    (hin : InsR w A (.slice ia ls.length ic) ls) (hil : (ls.length : Int) = g.ins) (hti : ∀ l ∈ ls, t < l.length) (ht : t ≤ 4611686018427387904) (hQ : OutsR w B ub vs Q) (hQl : Q.length = g.nodes.length) (hQi : t ≤ (Q.getD i []).length) (hQf : ∀ k ∈ x.from_, if x.kind = 6 then t ≤ (Q.getD k.toNat []).length else t < (Q.getD k.toNat []).length) :
    Calls Try.prog 19 #[gdV g.ins (.slice na g.nodes.length nc) (.slice oa g.outs.length oc), .slice (some ⟨ub, 0, none⟩) g.nodes.length g.nodes.length, .slice ia ls.length ic, .int .i64 (i : Int), .int .i64 (t : Int)] w fun e w' => SampP w (smpN Q ls x i t) e w' := by
  obtain ⟨N, hN⟩ : ∃ N, g.nodes.length = N := ⟨_, rfl⟩
  obtain ⟨M, hM⟩ : ∃ M, g.outs.length = M := ⟨_, rfl⟩
  obtain ⟨ins, hins⟩ : ∃ ins, g.ins = ins := ⟨_, rfl⟩
  obtain ⟨K, hK⟩ : ∃ K, ls.length = K := ⟨_, rfl⟩
  unfold gdV
  have hi : i < N := by rw [← hN]; exact (List.getElem?_eq_some_iff.1 hx).1
  obtain ⟨h1, h2, h3, h4, h5, h6, h7⟩ := made_ok hm
  rw [hN] at hnd hQl h3 ⊢
  rw [hins] at h4 hil ⊢
  rw [hM]
  rw [hK] at hin hil ⊢
  obtain ⟨b6, o6, fa, fc, rfl, hA6, hrg, _, hfs⟩ := nds_at hnd hx
  -- what it listens to
  have HAT : Hid (∀ (f : Nat) (u : Int), f < N → u < ((Q.getD f []).length : Int) → ∃ z, cn z = atP Q f u ∧ Hid (∀ v, Fr (fun _ => False) w v → Calls Try.prog 30 #[.slice (some ⟨ub, 0, none⟩) N N, .int .i64 (f : Int), .int .i64 u] v fun e w' => e = .returned (.float .f64 z) ∧ w' = v)) := fun f u hf hu => at_val hQ hQl hf hu
  have hlen : ∀ m : Nat, manyZ x.kind = (m : Int) → x.from_.length = m := fun m e => by rw [e] at h2; omega
  have HLEN := Lib.hid hlen
  have HFRM : Hid (∀ j, j < x.from_.length → ∃ f : Nat, x.from_[j]? = some (f : Int) ∧ fr x j = f ∧ f < N ∧ (if x.kind = 6 then t ≤ (Q.getD f []).length else t < (Q.getD f []).length)) := fun j hj => by
    have hm2 := List.getElem_mem hj
    have h9 := h3 _ hm2
    have h10 := hQf _ hm2
    refine ⟨(x.from_[j]).toNat, by rw [List.getElem?_eq_getElem hj, Int.toNat_of_nonneg h9.1], ?_, by omega, h10⟩
    unfold fr
    rw [List.getD_eq_getElem?_getD, List.getElem?_eq_getElem hj]
    rfl
  obtain ⟨S, hS⟩ : ∃ S, smpN Q ls x i t = S := ⟨_, rfl⟩
  have HS := Lib.hid hS
  rw [hS]
  obtain ⟨x', hx'⟩ : ∃ x', x = x' := ⟨x, rfl⟩
  rw [hx'] at HS HFRM HLEN
  obtain ⟨kind, frl, n, xx, ⟨b0, b1, b2, a1, a2⟩, ⟨shape, step, gain, att, dec, rel, sus⟩⟩ := x
  have HXE := Lib.hid hx'
  dsimp only at hfs hfl hst h1 h2 h3 h4 h5 h6 h7
  obtain ⟨F, hF⟩ : ∃ F, frl.length = F := ⟨_, rfl⟩
  have HF := Lib.hid hF
  rw [hF] at hfs hfl hrg h2
  have d0 := hrg 0 _ rfl
  rw [Nat.add_zero] at d0
  have d1 := hrg 1 _ rfl
  have d2 := hrg 2 _ rfl
  have d3 := hrg 3 _ rfl
  have d4 := hrg 4 _ rfl
  have d5 := hrg 5 _ rfl
  have d6 := hrg 6 _ rfl
  have d7 := hrg 7 _ rfl
  have d8 := hrg 8 _ rfl
  have d9 := hrg 9 _ rfl
  have d10 := hrg 10 _ rfl
  have d11 := hrg 11 _ rfl
  have d12 := hrg 12 _ rfl
  have d13 := hrg 13 _ rfl
  have d14 := hrg 14 _ rfl
  have d15 := hrg 15 _ rfl
  have HIN := Lib.hid hin
  have HFS := Lib.hid hfs
  have HTI := Lib.hid hti
  have HVP := Lib.hid h7
  have HG1 : Hid (w.grownBy ((w.alloc (.cells #[.int .i64 ins, .slice (some ⟨b6, o6, none⟩) N nc, .slice oa M oc] 25)).alloc (.cells #[.int .i64 kind, .slice fa F fc, .int .i64 n, .float .f64 xx, .float .f64 b0, .float .f64 b1, .float .f64 b2, .float .f64 a1, .float .f64 a2, .int .i64 shape, .int .u32 step, .float .f64 gain, .int .i64 att, .int .i64 dec, .int .i64 rel, .int .i64 sus] 53)) none) := grown_alloc (grown_alloc (grown_refl _ _) _) _
  have HXB : Hid (((w.alloc (.cells #[.int .i64 ins, .slice (some ⟨b6, o6, none⟩) N nc, .slice oa M oc] 25)).alloc (.cells #[.int .i64 kind, .slice fa F fc, .int .i64 n, .float .f64 xx, .float .f64 b0, .float .f64 b1, .float .f64 b2, .float .f64 a1, .float .f64 a2, .int .i64 shape, .int .u32 step, .float .f64 gain, .int .i64 att, .int .i64 dec, .int .i64 rel, .int .i64 sus] 53)).heap[w.heap.size + 1]? = some (.cells #[.int .i64 kind, .slice fa F fc, .int .i64 n, .float .f64 xx, .float .f64 b0, .float .f64 b1, .float .f64 b2, .float .f64 a1, .float .f64 a2, .int .i64 shape, .int .u32 step, .float .f64 gain, .int .i64 att, .int .i64 dec, .int .i64 rel, .int .i64 sus] 53 (0, 0))) := alloc2_new _ _ _
  have hix : (i : Int) < (N : Int) := by omega
  have hi0 : (0 : Int) ≤ (i : Int) := by omega
  clear hnd hx hm hin hti hQ hQl hQf hrg hfs hF hN hM hins hK hS hlen hx' h3 h6 h7
  go_enter Try.func19, Try.ntmps19
  go_upto_region 1 with fail
  have k0 := grown_alloc (grown_refl w none) (.cells #[.int .i64 ins, .slice (some ⟨b6, o6, none⟩) N nc, .slice oa M oc] 25)
  replace d0 := grown_cell k0 d0 (by simp)
  replace d1 := grown_cell k0 d1 (by simp)
  replace d2 := grown_cell k0 d2 (by simp)
  replace d3 := grown_cell k0 d3 (by simp)
  replace d4 := grown_cell k0 d4 (by simp)
  replace d5 := grown_cell k0 d5 (by simp)
  replace d6 := grown_cell k0 d6 (by simp)
  replace d7 := grown_cell k0 d7 (by simp)
  replace d8 := grown_cell k0 d8 (by simp)
  replace d9 := grown_cell k0 d9 (by simp)
  replace d10 := grown_cell k0 d10 (by simp)
  replace d11 := grown_cell k0 d11 (by simp)
  replace d12 := grown_cell k0 d12 (by simp)
  replace d13 := grown_cell k0 d13 (by simp)
  replace d14 := grown_cell k0 d14 (by simp)
  replace d15 := grown_cell k0 d15 (by simp)
  clear k0
  go_upto_region 2 with fail
  obtain ⟨w2, hw2⟩ : ∃ w2, (w.alloc (.cells #[.int .i64 ins, .slice (some ⟨b6, o6, none⟩) N nc, .slice oa M oc] 25)).alloc (.cells #[.int .i64 kind, .slice fa F fc, .int .i64 n, .float .f64 xx, .float .f64 b0, .float .f64 b1, .float .f64 b2, .float .f64 a1, .float .f64 a2, .int .i64 shape, .int .u32 step, .float .f64 gain, .int .i64 att, .int .i64 dec, .int .i64 rel, .int .i64 sus] 53) = w2 := ⟨_, rfl⟩
  obtain ⟨gB, hgB⟩ : ∃ gB, w.heap.size = gB := ⟨_, rfl⟩
  rw [hw2] at HG1 HXB
  rw [hgB] at HXB
  simp only [hw2, hgB]
  have hxb := HXB.out
  unfold Hid at hxb
  have x0 := cell_of hxb 0
  have x1 := cell_of hxb 1
  have x2 := cell_of hxb 2
  have x3 := cell_of hxb 3
  have x4 := cell_of hxb 4
  have x5 := cell_of hxb 5
  have x6 := cell_of hxb 6
  have x7 := cell_of hxb 7
  have x8 := cell_of hxb 8
  have x9 := cell_of hxb 9
  have x10 := cell_of hxb 10
  have x11 := cell_of hxb 11
  have x12 := cell_of hxb 12
  have x13 := cell_of hxb 13
  have x14 := cell_of hxb 14
  have x15 := cell_of hxb 15
  have HFR2 : Hid (Fr (fun _ => False) w w2) := .none HG1.out
  clear hw2 hgB hxb HXB d0 d1 d2 d3 d4 d5 d6 d7 d8 d9 d10 d11 d12 d13 d14 d15
  have HK : Hid (x'.kind = kind ∧ x'.from_ = frl ∧ x'.n = n ∧ x'.x = xx ∧ x'.co = ⟨b0, b1, b2, a1, a2⟩ ∧ x'.pt = ⟨shape, step, gain, att, dec, rel, sus⟩) := by rw [← HXE.out]; exact ⟨rfl, rfl, rfl, rfl, rfl, rfl⟩
  clear HXE
  have HF0 : Hid (∀ j, j < F → ∃ (f b7 o7 : Nat), fa = some ⟨b7, o7, none⟩ ∧ w2.cell? ⟨b7, o7 + j, none⟩ = some (.int .i64 (f : Int)) ∧ frl[j]? = some (f : Int) ∧ fr x' j = f ∧ f < N ∧ (if kind = 6 then t ≤ (Q.getD f []).length else t < (Q.getD f []).length)) := fun j hj => by
    obtain ⟨f, hf1, hf2, hf3, hf4⟩ := HFRM.out j (by rw [HK.out.2.1, HF.out]; exact hj)
    rw [HK.out.2.1] at hf1
    rw [HK.out.1] at hf4
    obtain ⟨b7, o7, rfl, _, hcell⟩ := sla_at HFS.out hf1
    have u1 := grown_cell HG1.out (hcell 0 _ rfl) (by simp)
    rw [Nat.mul_one, Nat.add_zero] at u1
    exact ⟨f, b7, o7, rfl, u1, hf1, hf2, hf3, hf4⟩
  have HLN : Hid (∀ m : Nat, manyZ kind = (m : Int) → F = m) := fun m e => by
    have := HLEN.out m (by rw [HK.out.1]; exact e)
    rw [HK.out.2.1, HF.out] at this
    exact this
  clear HFRM HLEN HFS
  rcases many_cases kind with rfl | rfl | rfl | rfl | rfl | rfl | rfl | rfl | ⟨hmz, _⟩
  · -- what comes in
    have hn := h4 rfl
    obtain ⟨nn, rfl⟩ : ∃ nn : Nat, n = (nn : Int) := Int.eq_ofNat_of_zero_le hn.1
    have hnK : (nn : Int) < (K : Int) := by omega
    obtain ⟨l, hl⟩ : ∃ l, ls[nn]? = some l := ⟨ls[nn]'(by have h := HIN.out; obtain ⟨_, hh1, hh2, _⟩ := h; obtain ⟨ao, cc, hh3⟩ := sla_open hh2; simp only [Value.slice.injEq] at hh3; omega), List.getElem?_eq_getElem _⟩
    have htl := HTI.out l (List.mem_of_getElem? hl)
    obtain ⟨b8, o8, ro, rc, rfl, _, hc8, _, hcf⟩ := ins_at HIN.out hl
    obtain ⟨y, hy⟩ : ∃ y, l[t]? = some y := ⟨l[t], List.getElem?_eq_getElem _⟩
    obtain ⟨b9, o9, z, rfl, _, hc9, hzy⟩ := cfl_at hcf hy
    have u1 := grown_cell HG1.out hc8 (by simp)
    have u2 := grown_cell HG1.out hc9 (by simp)
    obtain ⟨L, hL⟩ : ∃ L, l.length = L := ⟨_, rfl⟩
    rw [hL] at u1 htl
    have htl2 : (t : Int) < (L : Int) := by omega
    have HE : Hid (cn z = S) := by
      unfold Hid
      rw [← HS.out]
      unfold smpN
      rw [if_pos HK.out.1, HK.out.2.2.1, Int.toNat_natCast, List.getD_eq_getElem?_getD (l := ls), hl]
      simp only [Option.getD_some]
      rw [List.getD_eq_getElem?_getD, hy]
      exact hzy
    clear hl hc8 hcf hy hc9 hzy hL
    go_wp2_with fail
    go_ret
    exact ⟨z, rfl, HE.out, HG1.out⟩
  · have HE : Hid (cn xx = S) := by
      unfold Hid
      rw [← HS.out]
      unfold smpN
      rw [if_neg (by rw [HK.out.1]; decide), if_pos HK.out.1, HK.out.2.2.2.1]
    go_wp2_with fail
    go_ret
    exact ⟨xx, rfl, HE.out, HG1.out⟩
  · -- so many times
    obtain rfl := HLN.out 1 rfl
    obtain ⟨f, b7, o7, rfl, u1, _, hfx, hfN, hft⟩ := HF0.out 0 (by decide)
    rw [if_neg (by decide)] at hft
    rw [Nat.add_zero] at u1
    obtain ⟨z, hz, HZ⟩ := HAT.out f (t : Int) hfN (by omega)
    have HE : Hid (∀ r, cn r = fo .mul xx z → cn r = S) := fun r h => by
      rw [h, ← HS.out]
      unfold smpN
      rw [if_neg (by rw [HK.out.1]; decide), if_neg (by rw [HK.out.1]; decide), if_pos HK.out.1, HK.out.2.2.2.1, hfx, ← hz]
      exact fmul_eq (cn_cn _).symm (cn_cn _).symm
    have hne := LaterX.nonempty (fun _ => False) w2
    have k3 : ∀ n2 : LaterX (fun _ => False) w2, n2.w.cell? ⟨gB + 1, 3, none⟩ = some (.float .f64 xx) := LaterX.cell x3 id
    have k1 : ∀ n2 : LaterX (fun _ => False) w2, n2.w.cell? ⟨gB + 1, 1, none⟩ = some (.slice (some ⟨b7, o7, none⟩) 1 fc) := LaterX.cell x1 id
    have k7 : ∀ n2 : LaterX (fun _ => False) w2, n2.w.cell? ⟨b7, o7, none⟩ = some (.int .i64 (f : Int)) := LaterX.cell u1 id
    clear hz hfx hft
    go_upto_region 8 with fail
    refine Mixed.wp_region_mixed (lateX (fun _ => False) w2) (fun k => k == 8 || k == 9) (by kernel_rfl) (by kernel_rfl) ⟨⟨w2.drew, fr_drewN (Fr.refl _ _) 1⟩, rfl⟩ ?_
    unfold lateX
    refine Mixed.wpM_quiet rfl rfl rfl ?_; intro Kx hKx; go_big_quiet_op; go_big_quiet_on
    refine Mixed.wpM_quiet rfl rfl rfl ?_; intro Kx hKx; go_big_quiet_op; go_big_quiet_on
    refine Mixed.wpM_quiet rfl rfl rfl ?_; intro Kx hKx; go_big_quiet_op; go_big_quiet_on
    refine Mixed.wpM_quiet rfl rfl rfl ?_; intro Kx hKx; go_big_quiet_op; go_big_quiet_on
    refine Mixed.wpM_quiet rfl rfl rfl ?_; intro Kx hKx; go_big_quiet_op; go_big_quiet_on
    refine Mixed.wpM_quiet rfl rfl rfl ?_; intro Kx hKx; go_big_quiet_op; go_big_quiet_on
    refine Mixed.wpM_quiet rfl rfl rfl ?_; intro Kx hKx; go_big_quiet_op; go_big_quiet_on
    refine Mixed.wpM_quiet rfl rfl rfl ?_; intro Kx hKx; go_big_quiet_op; go_big_quiet_on
    refine Mixed.wpM_call rfl rfl 30 #[.slice (some ⟨ub, 0, none⟩) N N, .int .i64 (f : Int), .int .i64 (t : Int)] (by go_simp) ?_
    refine (HZ.out w2.drew (fr_drewN HFR2.out 1)).mono ?_
    rintro ez wq ⟨rfl, rfl⟩
    refine ⟨_, rfl, ⟨⟨w2.drew, fr_drewN (Fr.refl _ _) 1⟩, rfl⟩, ?_⟩
    go_simp
    refine wpM_farith rfl rfl .mul (.inr (.inr rfl)) _ _ _ _ rfl rfl rfl ?_
    intro r q hr
    have Hr := Lib.hid hr
    refine ⟨⟨⟨w2.drew.drewN q, fr_drewN (fr_drewN (Fr.refl _ _) 1) q⟩, rfl⟩, ?_⟩
    clear hr
    go_simp
    refine Mixed.wpM_quiet rfl rfl rfl ?_; intro Kx hKx; go_big_quiet_op; go_big_quiet_on
    refine Mixed.wpM_nil ?_
    intro nx hnx
    clear nx hnx k3 k1 k7 hne
    go_wp2_with fail
    go_ret
    exact ⟨r, rfl, HE.out r Hr.out, grown_drewN HG1.out _⟩
  · -- the sum
    have HSUM : Hid (GRAllP.sumN (frl.map fun k => atP Q k.toNat t) = S) := by
      unfold Hid
      rw [← HS.out]
      unfold smpN
      rw [if_neg (by rw [HK.out.1]; decide), if_neg (by rw [HK.out.1]; decide), if_neg (by rw [HK.out.1]; decide), if_pos HK.out.1, HK.out.2.1]
    go_upto_region 12 with fail
    go_loopw [12, 13, 14, 61] (fun v12 v13 v14 v61 wr => ∃ (q y m2 : Nat), q ≤ F ∧ v61 = .int .i64 (q : Int) ∧ v12 = .float .f64 y ∧ wr = w2.drewN m2 ∧ Hid (cn y = GRAllP.sumN ((frl.take q).map fun k => atP Q k.toNat t))) (fun _ _ _ v61 _ => F - (intOf v61).toNat)
    case atStart => exact ⟨0, 0, 0, Nat.zero_le _, rfl, rfl, rfl, cn0⟩
    case round =>
      obtain ⟨q, y, m2, hq, rfl, rfl, hwr, HY⟩ := hrel
      subst hwr
      by_cases hqF : q = F
      · have HE : Hid (cn y = S) := by
          unfold Hid
          rw [HY.out, List.take_of_length_le (Nat.le_of_eq (by rw [HF.out, hqF])), HSUM.out]
        have h2 := hqF.symm
        subst h2
        clear hqF
        go_wp2_with fail
        go_ret
        exact ⟨y, rfl, HE.out, grown_drewN HG1.out _⟩
      have hql : (q : Int) < (F : Int) := by omega
      have hql2 : q < F := by omega
      have hwq : IntKind.i64.wrap ((q : Int) + 1) = (q : Int) + 1 := IntWalk.i64_in _ (by omega)
      obtain ⟨f, b7, o7, rfl, u1, hfq, hfx, hfN, hft⟩ := HF0.out q hql2
      rw [if_neg (by decide)] at hft
      obtain ⟨z, hz, HZ⟩ := HAT.out f (t : Int) hfN (by omega)
      have HNX : Hid (∀ r, (if q = 0 then r = z else cn r = fo .add y z) → cn r = GRAllP.sumN ((frl.take (q + 1)).map fun k => atP Q k.toNat t)) := fun r h => by
        rw [GPiece.take_next hfq, List.map_append, List.map_cons, List.map_nil, Int.toNat_natCast, sum_snoc]
        by_cases h0 : q = 0
        · rw [if_pos h0] at h
          rw [if_pos (by rw [h0]; rfl), h, hz]
        · rw [if_neg h0] at h
          rw [if_neg (fun e => by
            have := congrArg List.length e
            rw [List.length_map, List.length_take, HF.out] at this
            simp at this
            omega), h, ← HY.out, ← hz]
          exact fadd_eq (cn_cn _).symm (cn_cn _).symm
      have u2 : (w2.drewN m2).cell? ⟨b7, o7 + q, none⟩ = some (.int .i64 (f : Int)) := u1
      clear u1 hfq hfx hft hz
      by_cases h0 : q = 0
      · have HN2 := Lib.hid (HNX.out z (by rw [if_pos h0]))
        have hq0b : (q : Int) = 0 := by omega
        subst h0
        rw [Nat.add_zero] at u2
        clear hq0b
        go_wp2_with (go_at_call 30; refine (HZ.out _ (fr_drewN HFR2.out m2)).mono ?_; rintro ez wq ⟨rfl, hwq2⟩; subst hwq2)
        refine ⟨?_, by simp [intOf]; omega⟩
        first
          | exact ⟨0 + 1, z, m2, by omega, rfl, rfl, rfl, HN2.out⟩
          | (repeat apply Exists.intro
             refine ⟨?_, rfl⟩
             exact ⟨0 + 1, z, m2, by omega, rfl, rfl, rfl, HN2.out⟩)
      · have hq0 : ¬ (q : Int) = 0 := by omega
        have hq0b : (q == 0) = false := by simpa using h0
        have HN2 : Hid (∀ r, cn r = fo .add y z → cn r = GRAllP.sumN ((frl.take (q + 1)).map fun k => atP Q k.toNat t)) := fun r h => HNX.out r (by rw [if_neg h0]; exact h)
        go_wp2_with (first | (go_at_call 30; refine (HZ.out _ (fr_drewN HFR2.out m2)).mono ?_; rintro ez wq ⟨rfl, hwq2⟩; subst hwq2) | (refine wpList_farith _ rfl .add (.inl rfl) _ _ _ _ rfl rfl rfl ?_; intro r q9 hr9; have HR9 := Lib.hid (HN2.out r hr9); clear hr9))
        refine ⟨?_, by simp [intOf]; omega⟩
        first
          | exact ⟨q + 1, r, m2 + q9, by omega, rfl, rfl, rfl, HR9.out⟩
          | (repeat apply Exists.intro
             refine ⟨?_, rfl⟩
             exact ⟨q + 1, r, m2 + q9, by omega, rfl, rfl, rfl, HR9.out⟩)
  · -- the one times the other
    obtain rfl := HLN.out 2 rfl
    obtain ⟨f, b7, o7, rfl, u1, _, hfx, hfN, hft⟩ := HF0.out 0 (by decide)
    obtain ⟨f2, b8, o8, e8, u2, _, hfx2, hfN2, hft2⟩ := HF0.out 1 (by decide)
    simp only [Option.some.injEq, Addr.mk.injEq, and_true] at e8
    obtain ⟨rfl, rfl⟩ := e8
    rw [if_neg (by decide)] at hft hft2
    rw [Nat.add_zero] at u1
    obtain ⟨z, hz, HZ⟩ := HAT.out f (t : Int) hfN (by omega)
    obtain ⟨z2, hz2, HZ2⟩ := HAT.out f2 (t : Int) hfN2 (by omega)
    have HE : Hid (∀ r, cn r = fo .mul z z2 → cn r = S) := fun r h => by
      rw [h, ← HS.out]
      unfold smpN
      rw [if_neg (by rw [HK.out.1]; decide), if_neg (by rw [HK.out.1]; decide), if_neg (by rw [HK.out.1]; decide), if_neg (by rw [HK.out.1]; decide), if_pos HK.out.1, hfx, hfx2, ← hz, ← hz2]
      exact fmul_eq (cn_cn _).symm (cn_cn _).symm
    have hne := LaterX.nonempty (fun _ => False) w2
    have k1 : ∀ n2 : LaterX (fun _ => False) w2, n2.w.cell? ⟨gB + 1, 1, none⟩ = some (.slice (some ⟨b7, o7, none⟩) 2 fc) := LaterX.cell x1 id
    have k7 : ∀ n2 : LaterX (fun _ => False) w2, n2.w.cell? ⟨b7, o7, none⟩ = some (.int .i64 (f : Int)) := LaterX.cell u1 id
    have k8 : ∀ n2 : LaterX (fun _ => False) w2, n2.w.cell? ⟨b7, o7 + 1, none⟩ = some (.int .i64 (f2 : Int)) := LaterX.cell u2 id
    clear hz hfx hft hz2 hfx2 hft2
    go_upto_region 20 with fail
    refine Mixed.wp_region_mixed (lateX (fun _ => False) w2) (fun k => k == 6 || k == 13 || k == 14) (by kernel_rfl) (by kernel_rfl) ⟨⟨w2.drew, fr_drewN (Fr.refl _ _) 1⟩, rfl⟩ ?_
    unfold lateX
    refine Mixed.wpM_quiet rfl rfl rfl ?_; intro Kx hKx; go_big_quiet_op; go_big_quiet_on
    refine Mixed.wpM_quiet rfl rfl rfl ?_; intro Kx hKx; go_big_quiet_op; go_big_quiet_on
    refine Mixed.wpM_quiet rfl rfl rfl ?_; intro Kx hKx; go_big_quiet_op; go_big_quiet_on
    refine Mixed.wpM_quiet rfl rfl rfl ?_; intro Kx hKx; go_big_quiet_op; go_big_quiet_on
    refine Mixed.wpM_quiet rfl rfl rfl ?_; intro Kx hKx; go_big_quiet_op; go_big_quiet_on
    refine Mixed.wpM_quiet rfl rfl rfl ?_; intro Kx hKx; go_big_quiet_op; go_big_quiet_on
    refine Mixed.wpM_call rfl rfl 30 #[.slice (some ⟨ub, 0, none⟩) N N, .int .i64 (f : Int), .int .i64 (t : Int)] (by go_simp) ?_
    refine (HZ.out w2.drew (fr_drewN HFR2.out 1)).mono ?_
    rintro ez wq ⟨rfl, rfl⟩
    refine ⟨_, rfl, ⟨⟨w2.drew, fr_drewN (Fr.refl _ _) 1⟩, rfl⟩, ?_⟩
    go_simp
    refine Mixed.wpM_quiet rfl rfl rfl ?_; intro Kx hKx; go_big_quiet_op; go_big_quiet_on
    refine Mixed.wpM_quiet rfl rfl rfl ?_; intro Kx hKx; go_big_quiet_op; go_big_quiet_on
    refine Mixed.wpM_quiet rfl rfl rfl ?_; intro Kx hKx; go_big_quiet_op; go_big_quiet_on
    refine Mixed.wpM_quiet rfl rfl rfl ?_; intro Kx hKx; go_big_quiet_op; go_big_quiet_on
    refine Mixed.wpM_quiet rfl rfl rfl ?_; intro Kx hKx; go_big_quiet_op; go_big_quiet_on
    refine Mixed.wpM_quiet rfl rfl rfl ?_; intro Kx hKx; go_big_quiet_op; go_big_quiet_on
    refine Mixed.wpM_call rfl rfl 30 #[.slice (some ⟨ub, 0, none⟩) N N, .int .i64 (f2 : Int), .int .i64 (t : Int)] (by go_simp) ?_
    refine (HZ2.out w2.drew (fr_drewN HFR2.out 1)).mono ?_
    rintro ez wq ⟨rfl, rfl⟩
    refine ⟨_, rfl, ⟨⟨w2.drew, fr_drewN (Fr.refl _ _) 1⟩, rfl⟩, ?_⟩
    go_simp
    refine wpM_farith rfl rfl .mul (.inr (.inr rfl)) _ _ _ _ rfl rfl rfl ?_
    intro r q hr
    have Hr := Lib.hid hr
    refine ⟨⟨⟨w2.drew.drewN q, fr_drewN (fr_drewN (Fr.refl _ _) 1) q⟩, rfl⟩, ?_⟩
    clear hr
    go_simp
    refine Mixed.wpM_quiet rfl rfl rfl ?_; intro Kx hKx; go_big_quiet_op; go_big_quiet_on
    refine Mixed.wpM_nil ?_
    intro nx hnx
    clear nx hnx k1 k7 k8 hne
    go_wp2_with fail
    go_ret
    exact ⟨r, rfl, HE.out r Hr.out, grown_drewN HG1.out _⟩
  · -- so many samples ago
    obtain rfl := HLN.out 1 rfl
    have hn := h5 rfl
    obtain ⟨f, b7, o7, rfl, u1, _, hfx, hfN, hft⟩ := HF0.out 0 (by decide)
    rw [if_pos rfl] at hft
    rw [Nat.add_zero] at u1
    obtain ⟨z, hz, HZ⟩ := HAT.out f ((t : Int) - n) hfN (by omega)
    have HE : Hid (cn z = S) := by
      unfold Hid
      rw [← HS.out]
      unfold smpN
      rw [if_neg (by rw [HK.out.1]; decide), if_neg (by rw [HK.out.1]; decide), if_neg (by rw [HK.out.1]; decide), if_neg (by rw [HK.out.1]; decide), if_neg (by rw [HK.out.1]; decide), if_pos HK.out.1, HK.out.2.2.1, hfx, hz]
    have hws : IntKind.i64.wrap ((t : Int) - n) = (t : Int) - n := IntWalk.i64_in _ (by omega)
    have hne := LaterX.nonempty (fun _ => False) w2
    have k1 : ∀ n2 : LaterX (fun _ => False) w2, n2.w.cell? ⟨gB + 1, 1, none⟩ = some (.slice (some ⟨b7, o7, none⟩) 1 fc) := LaterX.cell x1 id
    have k2 : ∀ n2 : LaterX (fun _ => False) w2, n2.w.cell? ⟨gB + 1, 2, none⟩ = some (.int .i64 n) := LaterX.cell x2 id
    have k7 : ∀ n2 : LaterX (fun _ => False) w2, n2.w.cell? ⟨b7, o7, none⟩ = some (.int .i64 (f : Int)) := LaterX.cell u1 id
    clear hz hfx hft
    go_upto_region 22 with fail
    refine Mixed.wp_region_mixed (lateX (fun _ => False) w2) (fun k => k == 9) (by kernel_rfl) (by kernel_rfl) ⟨⟨w2.drew, fr_drewN (Fr.refl _ _) 1⟩, rfl⟩ ?_
    unfold lateX
    refine Mixed.wpM_quiet rfl rfl rfl ?_; intro Kx hKx; go_big_quiet_op; go_big_quiet_on
    refine Mixed.wpM_quiet rfl rfl rfl ?_; intro Kx hKx; go_big_quiet_op; go_big_quiet_on
    refine Mixed.wpM_quiet rfl rfl rfl ?_; intro Kx hKx; go_big_quiet_op; go_big_quiet_on
    refine Mixed.wpM_quiet rfl rfl rfl ?_; intro Kx hKx; go_big_quiet_op; go_big_quiet_on
    refine Mixed.wpM_quiet rfl rfl rfl ?_; intro Kx hKx; go_big_quiet_op; go_big_quiet_on
    refine Mixed.wpM_quiet rfl rfl rfl ?_; intro Kx hKx; go_big_quiet_op; go_big_quiet_on
    refine Mixed.wpM_quiet rfl rfl rfl ?_; intro Kx hKx; go_big_quiet_op; go_big_quiet_on
    refine Mixed.wpM_quiet rfl rfl rfl ?_; intro Kx hKx; go_big_quiet_op; go_big_quiet_on
    refine Mixed.wpM_quiet rfl rfl rfl ?_; intro Kx hKx; go_big_quiet_op; go_big_quiet_on
    refine Mixed.wpM_call rfl rfl 30 #[.slice (some ⟨ub, 0, none⟩) N N, .int .i64 (f : Int), .int .i64 ((t : Int) - n)] (by go_simp) ?_
    refine (HZ.out w2.drew (fr_drewN HFR2.out 1)).mono ?_
    rintro ez wq ⟨rfl, rfl⟩
    refine ⟨_, rfl, ⟨⟨w2.drew, fr_drewN (Fr.refl _ _) 1⟩, rfl⟩, ?_⟩
    go_simp
    refine Mixed.wpM_quiet rfl rfl rfl ?_; intro Kx hKx; go_big_quiet_op; go_big_quiet_on
    refine Mixed.wpM_nil ?_
    intro nx hnx
    clear nx hnx k1 k2 k7 hne
    go_wp2_with fail
    go_ret
    exact ⟨z, rfl, HE.out, grown_drewN HG1.out 1⟩
  · -- a filter
    obtain rfl := HLN.out 1 rfl
    obtain ⟨f, b7, o7, rfl, u1, _, hfx, hfN, hft⟩ := HF0.out 0 (by decide)
    rw [if_neg (by decide)] at hft
    rw [Nat.add_zero] at u1
    obtain ⟨z0, hz0, HZ0⟩ := HAT.out f (t : Int) hfN (by omega)
    obtain ⟨z1, hz1, HZ1⟩ := HAT.out f ((t : Int) - 1) hfN (by omega)
    obtain ⟨z2, hz2, HZ2⟩ := HAT.out f ((t : Int) - 2) hfN (by omega)
    obtain ⟨z3, hz3, HZ3⟩ := HAT.out i ((t : Int) - 1) hi (by omega)
    obtain ⟨z4, hz4, HZ4⟩ := HAT.out i ((t : Int) - 2) hi (by omega)
    have HE : Hid (∀ r0 r1 r2 r3 r4 y0 y1 y2 y3, cn r0 = fo .mul b0 z0 → cn r1 = fo .mul b1 z1 → cn r2 = fo .mul b2 z2 → cn r3 = fo .mul a1 z3 → cn r4 = fo .mul a2 z4 → cn y0 = fo .add r0 r1 → cn y1 = fo .add y0 r2 → cn y2 = fo .sub y1 r3 → cn y3 = fo .sub y2 r4 → cn y3 = S) := fun r0 r1 r2 r3 r4 y0 y1 y2 y3 e0 e1 e2 e3 e4 f0 f1 f2 f3 => by
      rw [f3, ← HS.out]
      unfold smpN
      rw [if_neg (by rw [HK.out.1]; decide), if_neg (by rw [HK.out.1]; decide), if_neg (by rw [HK.out.1]; decide), if_neg (by rw [HK.out.1]; decide), if_neg (by rw [HK.out.1]; decide), if_neg (by rw [HK.out.1]; decide), if_neg (by rw [HK.out.1]; decide), HK.out.2.2.2.2.1, hfx]
      dsimp only
      have g0 : cn r0 = fmul b0 (atP Q f t) := e0.trans (mul_at hz0)
      have g1 : cn r1 = fmul b1 (atP Q f ((t : Int) - 1)) := e1.trans (mul_at hz1)
      have g2 : cn r2 = fmul b2 (atP Q f ((t : Int) - 2)) := e2.trans (mul_at hz2)
      have g3 : cn r3 = fmul a1 (atP Q i ((t : Int) - 1)) := e3.trans (mul_at hz3)
      have g4 : cn r4 = fmul a2 (atP Q i ((t : Int) - 2)) := e4.trans (mul_at hz4)
      rw [← g0, ← g1, ← g2, ← g3, ← g4]
      refine fsub_eq (f2.trans ?_ |>.trans (cn_fsub _ _).symm) (cn_cn _).symm
      refine fsub_eq (f1.trans ?_ |>.trans (cn_fadd _ _).symm) (cn_cn _).symm
      refine fadd_eq (f0.trans ?_ |>.trans (cn_fadd _ _).symm) (cn_cn _).symm
      exact fadd_eq (cn_cn _).symm (cn_cn _).symm
    have hne := LaterX.nonempty (fun _ => False) w2
    have k1 : ∀ n2 : LaterX (fun _ => False) w2, n2.w.cell? ⟨gB + 1, 1, none⟩ = some (.slice (some ⟨b7, o7, none⟩) 1 fc) := LaterX.cell x1 id
    have m0 : ∀ n2 : LaterX (fun _ => False) w2, n2.w.cell? ⟨gB + 1, 4, none⟩ = some (.float .f64 b0) := LaterX.cell x4 id
    have m1 : ∀ n2 : LaterX (fun _ => False) w2, n2.w.cell? ⟨gB + 1, 5, none⟩ = some (.float .f64 b1) := LaterX.cell x5 id
    have m2 : ∀ n2 : LaterX (fun _ => False) w2, n2.w.cell? ⟨gB + 1, 6, none⟩ = some (.float .f64 b2) := LaterX.cell x6 id
    have m3 : ∀ n2 : LaterX (fun _ => False) w2, n2.w.cell? ⟨gB + 1, 7, none⟩ = some (.float .f64 a1) := LaterX.cell x7 id
    have m4 : ∀ n2 : LaterX (fun _ => False) w2, n2.w.cell? ⟨gB + 1, 8, none⟩ = some (.float .f64 a2) := LaterX.cell x8 id
    have k7 : ∀ n2 : LaterX (fun _ => False) w2, n2.w.cell? ⟨b7, o7, none⟩ = some (.int .i64 (f : Int)) := LaterX.cell u1 id
    clear hz0 hz1 hz2 hz3 hz4 hfx hft
    go_upto_region 25 with fail
    refine Mixed.wp_region_mixed (lateX (fun _ => False) w2) (fun k => k == 6 || k == 7) (by kernel_rfl) (by kernel_rfl) ⟨⟨w2.drew, fr_drewN (Fr.refl _ _) 1⟩, rfl⟩ ?_
    unfold lateX
    refine Mixed.wpM_quiet rfl rfl rfl ?_; intro Kx hKx; go_big_quiet_op; go_big_quiet_on
    refine Mixed.wpM_quiet rfl rfl rfl ?_; intro Kx hKx; go_big_quiet_op; go_big_quiet_on
    refine Mixed.wpM_quiet rfl rfl rfl ?_; intro Kx hKx; go_big_quiet_op; go_big_quiet_on
    refine Mixed.wpM_quiet rfl rfl rfl ?_; intro Kx hKx; go_big_quiet_op; go_big_quiet_on
    refine Mixed.wpM_quiet rfl rfl rfl ?_; intro Kx hKx; go_big_quiet_op; go_big_quiet_on
    refine Mixed.wpM_quiet rfl rfl rfl ?_; intro Kx hKx; go_big_quiet_op; go_big_quiet_on
    refine Mixed.wpM_make rfl rfl (.pointer (some ⟨w2.heap.size, 0, none⟩)) (w2.drew.alloc (.cells #[.float .f64 0, .float .f64 0, .float .f64 0, .float .f64 0, .float .f64 0] 48)) (by go_simp) ⟨⟨_, .none (grown_alloc (grown_drew (grown_refl _ _)) _)⟩, rfl⟩ ?_
    go_simp
    refine wpM_store rfl rfl (w2.drew.alloc (.cells #[.float .f64 b0, .float .f64 b1, .float .f64 b2, .float .f64 a1, .float .f64 a2] 48)) (by go_simp) ⟨⟨_, .none (grown_alloc (grown_drew (grown_refl _ _)) _)⟩, rfl⟩ ?_
    dsimp only [Act.put]
    refine Mixed.wpM_quiet rfl rfl rfl ?_; intro Kx hKx; go_big_quiet_op; go_big_quiet_on
    refine Mixed.wpM_nil ?_
    intro nx hnx
    clear nx hnx k1 k7 m0 m1 m2 m3 m4 hne
    have hcb := heap_alloc_new w2.drew (.cells #[.float .f64 b0, .float .f64 b1, .float .f64 b2, .float .f64 a1, .float .f64 a2] 48)
    have hcz : w2.drew.heap.size = w2.heap.size := rfl
    rw [hcz] at hcb
    have Gw3 : Hid (w.grownBy (w2.drew.alloc (.cells #[.float .f64 b0, .float .f64 b1, .float .f64 b2, .float .f64 a1, .float .f64 a2] 48)) none) := grown_alloc (grown_drew HG1.out) _
    obtain ⟨w3, hw3⟩ : ∃ w3, w2.drew.alloc (.cells #[.float .f64 b0, .float .f64 b1, .float .f64 b2, .float .f64 a1, .float .f64 a2] 48) = w3 := ⟨_, rfl⟩
    obtain ⟨cB, hcB⟩ : ∃ cB, w2.heap.size = cB := ⟨_, rfl⟩
    rw [hw3] at hcb Gw3
    rw [hcB] at hcb
    have Hw3 : Hid (Fr (fun _ => False) w w3) := .none Gw3.out
    have c0 := cell_of hcb 0
    have c1 := cell_of hcb 1
    have c2 := cell_of hcb 2
    have c3 := cell_of hcb 3
    have c4 := cell_of hcb 4
    simp only [hw3, hcB]
    clear hcb hcz hw3 hcB
    have hne := LaterX.nonempty (fun _ => False) w3
    have kc : ∀ n2 : LaterX (fun _ => False) w3, n2.w.cell? ⟨cB, 0, none⟩ = some (.float .f64 b0) := LaterX.cell c0 id
    go_upto_region 26 with fail
    refine Mixed.wp_region_mixed (lateX (fun _ => False) w3) (fun k => k == 5 || k == 6) (by kernel_rfl) (by kernel_rfl) ⟨⟨w3.drew, fr_drewN (Fr.refl _ _) 1⟩, rfl⟩ ?_
    unfold lateX
    refine Mixed.wpM_quiet rfl rfl rfl ?_; intro Kx hKx; go_big_quiet_op; go_big_quiet_on
    refine Mixed.wpM_quiet rfl rfl rfl ?_; intro Kx hKx; go_big_quiet_op; go_big_quiet_on
    refine Mixed.wpM_quiet rfl rfl rfl ?_; intro Kx hKx; go_big_quiet_op; go_big_quiet_on
    refine Mixed.wpM_quiet rfl rfl rfl ?_; intro Kx hKx; go_big_quiet_op; go_big_quiet_on
    refine Mixed.wpM_quiet rfl rfl rfl ?_; intro Kx hKx; go_big_quiet_op; go_big_quiet_on
    refine Mixed.wpM_call rfl rfl 30 #[.slice (some ⟨ub, 0, none⟩) N N, .int .i64 (f : Int), .int .i64 (t : Int)] (by go_simp) ?_
    refine (HZ0.out w3.drew (fr_drewN Hw3.out 1)).mono ?_
    rintro ez wq ⟨rfl, rfl⟩
    refine ⟨_, rfl, ⟨⟨w3.drew, fr_drewN (Fr.refl _ _) 1⟩, rfl⟩, ?_⟩
    go_simp
    refine wpM_farith rfl rfl .mul (.inr (.inr rfl)) _ _ _ _ rfl rfl rfl ?_
    intro r0 q hr0
    have Hr0 := Lib.hid hr0
    refine ⟨⟨⟨w3.drew.drewN q, fr_drewN (fr_drewN (Fr.refl _ _) 1) q⟩, rfl⟩, ?_⟩
    clear hr0
    go_simp
    refine Mixed.wpM_quiet rfl rfl rfl ?_; intro Kx hKx; go_big_quiet_op; go_big_quiet_on
    refine Mixed.wpM_nil ?_
    intro nx hnx
    clear nx hnx kc hne
    obtain ⟨w4, hw4⟩ : ∃ w4, w3.drewN (1 + q) = w4 := ⟨_, rfl⟩
    have Hw4 : Hid (Fr (fun _ => False) w w4) := by unfold Hid; rw [← hw4]; exact fr_drewN Hw3.out (1 + q)
    replace c0 : w4.cell? ⟨cB, 0, none⟩ = some (.float .f64 b0) := by rw [← hw4]; exact c0
    replace c1 : w4.cell? ⟨cB, 1, none⟩ = some (.float .f64 b1) := by rw [← hw4]; exact c1
    replace c2 : w4.cell? ⟨cB, 2, none⟩ = some (.float .f64 b2) := by rw [← hw4]; exact c2
    replace c3 : w4.cell? ⟨cB, 3, none⟩ = some (.float .f64 a1) := by rw [← hw4]; exact c3
    replace c4 : w4.cell? ⟨cB, 4, none⟩ = some (.float .f64 a2) := by rw [← hw4]; exact c4
    have Gw4 : Hid (w.grownBy w4 none) := by unfold Hid; rw [← hw4]; exact grown_drewN Gw3.out (1 + q)
    simp only [hw4]
    clear hw4
    have hne := LaterX.nonempty (fun _ => False) w4
    have kc : ∀ n2 : LaterX (fun _ => False) w4, n2.w.cell? ⟨cB, 1, none⟩ = some (.float .f64 b1) := LaterX.cell c1 id
    have hws : IntKind.i64.wrap ((t : Int) - 1) = (t : Int) - 1 := IntWalk.i64_in _ (by omega)
    go_upto_region 27 with fail
    refine Mixed.wp_region_mixed (lateX (fun _ => False) w4) (fun k => k == 6 || k == 7) (by kernel_rfl) (by kernel_rfl) ⟨⟨w4.drew, fr_drewN (Fr.refl _ _) 1⟩, rfl⟩ ?_
    unfold lateX
    refine Mixed.wpM_quiet rfl rfl rfl ?_; intro Kx hKx; go_big_quiet_op; go_big_quiet_on
    refine Mixed.wpM_quiet rfl rfl rfl ?_; intro Kx hKx; go_big_quiet_op; go_big_quiet_on
    refine Mixed.wpM_quiet rfl rfl rfl ?_; intro Kx hKx; go_big_quiet_op; go_big_quiet_on
    refine Mixed.wpM_quiet rfl rfl rfl ?_; intro Kx hKx; go_big_quiet_op; go_big_quiet_on
    refine Mixed.wpM_quiet rfl rfl rfl ?_; intro Kx hKx; go_big_quiet_op; go_big_quiet_on
    refine Mixed.wpM_quiet rfl rfl rfl ?_; intro Kx hKx; go_big_quiet_op; go_big_quiet_on
    refine Mixed.wpM_call rfl rfl 30 #[.slice (some ⟨ub, 0, none⟩) N N, .int .i64 (f : Int), .int .i64 ((t : Int) - 1)] (by go_simp) ?_
    refine (HZ1.out w4.drew (fr_drewN Hw4.out 1)).mono ?_
    rintro ez wq ⟨rfl, rfl⟩
    refine ⟨_, rfl, ⟨⟨w4.drew, fr_drewN (Fr.refl _ _) 1⟩, rfl⟩, ?_⟩
    go_simp
    refine wpM_farith rfl rfl .mul (.inr (.inr rfl)) _ _ _ _ rfl rfl rfl ?_
    intro r1 q hr1
    have Hr1 := Lib.hid hr1
    refine ⟨⟨⟨w4.drew.drewN q, fr_drewN (fr_drewN (Fr.refl _ _) 1) q⟩, rfl⟩, ?_⟩
    clear hr1
    go_simp
    refine Mixed.wpM_quiet rfl rfl rfl ?_; intro Kx hKx; go_big_quiet_op; go_big_quiet_on
    refine Mixed.wpM_nil ?_
    intro nx hnx
    clear nx hnx kc hne hws
    obtain ⟨w5, hw5⟩ : ∃ w5, w4.drewN (1 + q) = w5 := ⟨_, rfl⟩
    have Hw5 : Hid (Fr (fun _ => False) w w5) := by unfold Hid; rw [← hw5]; exact fr_drewN Hw4.out (1 + q)
    replace c0 : w5.cell? ⟨cB, 0, none⟩ = some (.float .f64 b0) := by rw [← hw5]; exact c0
    replace c1 : w5.cell? ⟨cB, 1, none⟩ = some (.float .f64 b1) := by rw [← hw5]; exact c1
    replace c2 : w5.cell? ⟨cB, 2, none⟩ = some (.float .f64 b2) := by rw [← hw5]; exact c2
    replace c3 : w5.cell? ⟨cB, 3, none⟩ = some (.float .f64 a1) := by rw [← hw5]; exact c3
    replace c4 : w5.cell? ⟨cB, 4, none⟩ = some (.float .f64 a2) := by rw [← hw5]; exact c4
    have Gw5 : Hid (w.grownBy w5 none) := by unfold Hid; rw [← hw5]; exact grown_drewN Gw4.out (1 + q)
    simp only [hw5]
    clear hw5
    have hne := LaterX.nonempty (fun _ => False) w5
    have kc : ∀ n2 : LaterX (fun _ => False) w5, n2.w.cell? ⟨cB, 2, none⟩ = some (.float .f64 b2) := LaterX.cell c2 id
    have hws : IntKind.i64.wrap ((t : Int) - 2) = (t : Int) - 2 := IntWalk.i64_in _ (by omega)
    go_upto_region 28 with fail
    refine Mixed.wp_region_mixed (lateX (fun _ => False) w5) (fun k => k == 6 || k == 7) (by kernel_rfl) (by kernel_rfl) ⟨⟨w5.drew, fr_drewN (Fr.refl _ _) 1⟩, rfl⟩ ?_
    unfold lateX
    refine Mixed.wpM_quiet rfl rfl rfl ?_; intro Kx hKx; go_big_quiet_op; go_big_quiet_on
    refine Mixed.wpM_quiet rfl rfl rfl ?_; intro Kx hKx; go_big_quiet_op; go_big_quiet_on
    refine Mixed.wpM_quiet rfl rfl rfl ?_; intro Kx hKx; go_big_quiet_op; go_big_quiet_on
    refine Mixed.wpM_quiet rfl rfl rfl ?_; intro Kx hKx; go_big_quiet_op; go_big_quiet_on
    refine Mixed.wpM_quiet rfl rfl rfl ?_; intro Kx hKx; go_big_quiet_op; go_big_quiet_on
    refine Mixed.wpM_quiet rfl rfl rfl ?_; intro Kx hKx; go_big_quiet_op; go_big_quiet_on
    refine Mixed.wpM_call rfl rfl 30 #[.slice (some ⟨ub, 0, none⟩) N N, .int .i64 (f : Int), .int .i64 ((t : Int) - 2)] (by go_simp) ?_
    refine (HZ2.out w5.drew (fr_drewN Hw5.out 1)).mono ?_
    rintro ez wq ⟨rfl, rfl⟩
    refine ⟨_, rfl, ⟨⟨w5.drew, fr_drewN (Fr.refl _ _) 1⟩, rfl⟩, ?_⟩
    go_simp
    refine wpM_farith rfl rfl .mul (.inr (.inr rfl)) _ _ _ _ rfl rfl rfl ?_
    intro r2 q hr2
    have Hr2 := Lib.hid hr2
    refine ⟨⟨⟨w5.drew.drewN q, fr_drewN (fr_drewN (Fr.refl _ _) 1) q⟩, rfl⟩, ?_⟩
    clear hr2
    go_simp
    refine Mixed.wpM_quiet rfl rfl rfl ?_; intro Kx hKx; go_big_quiet_op; go_big_quiet_on
    refine Mixed.wpM_nil ?_
    intro nx hnx
    clear nx hnx kc hne hws
    obtain ⟨w6, hw6⟩ : ∃ w6, w5.drewN (1 + q) = w6 := ⟨_, rfl⟩
    have Hw6 : Hid (Fr (fun _ => False) w w6) := by unfold Hid; rw [← hw6]; exact fr_drewN Hw5.out (1 + q)
    replace c0 : w6.cell? ⟨cB, 0, none⟩ = some (.float .f64 b0) := by rw [← hw6]; exact c0
    replace c1 : w6.cell? ⟨cB, 1, none⟩ = some (.float .f64 b1) := by rw [← hw6]; exact c1
    replace c2 : w6.cell? ⟨cB, 2, none⟩ = some (.float .f64 b2) := by rw [← hw6]; exact c2
    replace c3 : w6.cell? ⟨cB, 3, none⟩ = some (.float .f64 a1) := by rw [← hw6]; exact c3
    replace c4 : w6.cell? ⟨cB, 4, none⟩ = some (.float .f64 a2) := by rw [← hw6]; exact c4
    have Gw6 : Hid (w.grownBy w6 none) := by unfold Hid; rw [← hw6]; exact grown_drewN Gw5.out (1 + q)
    simp only [hw6]
    clear hw6
    have hne := LaterX.nonempty (fun _ => False) w6
    have kc : ∀ n2 : LaterX (fun _ => False) w6, n2.w.cell? ⟨cB, 3, none⟩ = some (.float .f64 a1) := LaterX.cell c3 id
    have hws : IntKind.i64.wrap ((t : Int) - 1) = (t : Int) - 1 := IntWalk.i64_in _ (by omega)
    go_upto_region 29 with fail
    refine Mixed.wp_region_mixed (lateX (fun _ => False) w6) (fun k => k == 6 || k == 7) (by kernel_rfl) (by kernel_rfl) ⟨⟨w6.drew, fr_drewN (Fr.refl _ _) 1⟩, rfl⟩ ?_
    unfold lateX
    refine Mixed.wpM_quiet rfl rfl rfl ?_; intro Kx hKx; go_big_quiet_op; go_big_quiet_on
    refine Mixed.wpM_quiet rfl rfl rfl ?_; intro Kx hKx; go_big_quiet_op; go_big_quiet_on
    refine Mixed.wpM_quiet rfl rfl rfl ?_; intro Kx hKx; go_big_quiet_op; go_big_quiet_on
    refine Mixed.wpM_quiet rfl rfl rfl ?_; intro Kx hKx; go_big_quiet_op; go_big_quiet_on
    refine Mixed.wpM_quiet rfl rfl rfl ?_; intro Kx hKx; go_big_quiet_op; go_big_quiet_on
    refine Mixed.wpM_quiet rfl rfl rfl ?_; intro Kx hKx; go_big_quiet_op; go_big_quiet_on
    refine Mixed.wpM_call rfl rfl 30 #[.slice (some ⟨ub, 0, none⟩) N N, .int .i64 (i : Int), .int .i64 ((t : Int) - 1)] (by go_simp) ?_
    refine (HZ3.out w6.drew (fr_drewN Hw6.out 1)).mono ?_
    rintro ez wq ⟨rfl, rfl⟩
    refine ⟨_, rfl, ⟨⟨w6.drew, fr_drewN (Fr.refl _ _) 1⟩, rfl⟩, ?_⟩
    go_simp
    refine wpM_farith rfl rfl .mul (.inr (.inr rfl)) _ _ _ _ rfl rfl rfl ?_
    intro r3 q hr3
    have Hr3 := Lib.hid hr3
    refine ⟨⟨⟨w6.drew.drewN q, fr_drewN (fr_drewN (Fr.refl _ _) 1) q⟩, rfl⟩, ?_⟩
    clear hr3
    go_simp
    refine Mixed.wpM_quiet rfl rfl rfl ?_; intro Kx hKx; go_big_quiet_op; go_big_quiet_on
    refine Mixed.wpM_nil ?_
    intro nx hnx
    clear nx hnx kc hne hws
    obtain ⟨w7, hw7⟩ : ∃ w7, w6.drewN (1 + q) = w7 := ⟨_, rfl⟩
    have Hw7 : Hid (Fr (fun _ => False) w w7) := by unfold Hid; rw [← hw7]; exact fr_drewN Hw6.out (1 + q)
    replace c0 : w7.cell? ⟨cB, 0, none⟩ = some (.float .f64 b0) := by rw [← hw7]; exact c0
    replace c1 : w7.cell? ⟨cB, 1, none⟩ = some (.float .f64 b1) := by rw [← hw7]; exact c1
    replace c2 : w7.cell? ⟨cB, 2, none⟩ = some (.float .f64 b2) := by rw [← hw7]; exact c2
    replace c3 : w7.cell? ⟨cB, 3, none⟩ = some (.float .f64 a1) := by rw [← hw7]; exact c3
    replace c4 : w7.cell? ⟨cB, 4, none⟩ = some (.float .f64 a2) := by rw [← hw7]; exact c4
    have Gw7 : Hid (w.grownBy w7 none) := by unfold Hid; rw [← hw7]; exact grown_drewN Gw6.out (1 + q)
    simp only [hw7]
    clear hw7
    have hne := LaterX.nonempty (fun _ => False) w7
    have kc : ∀ n2 : LaterX (fun _ => False) w7, n2.w.cell? ⟨cB, 4, none⟩ = some (.float .f64 a2) := LaterX.cell c4 id
    have hws : IntKind.i64.wrap ((t : Int) - 2) = (t : Int) - 2 := IntWalk.i64_in _ (by omega)
    go_upto_region 30 with fail
    refine Mixed.wp_region_mixed (lateX (fun _ => False) w7) (fun k => k == 6 || k == 7) (by kernel_rfl) (by kernel_rfl) ⟨⟨w7.drew, fr_drewN (Fr.refl _ _) 1⟩, rfl⟩ ?_
    unfold lateX
    refine Mixed.wpM_quiet rfl rfl rfl ?_; intro Kx hKx; go_big_quiet_op; go_big_quiet_on
    refine Mixed.wpM_quiet rfl rfl rfl ?_; intro Kx hKx; go_big_quiet_op; go_big_quiet_on
    refine Mixed.wpM_quiet rfl rfl rfl ?_; intro Kx hKx; go_big_quiet_op; go_big_quiet_on
    refine Mixed.wpM_quiet rfl rfl rfl ?_; intro Kx hKx; go_big_quiet_op; go_big_quiet_on
    refine Mixed.wpM_quiet rfl rfl rfl ?_; intro Kx hKx; go_big_quiet_op; go_big_quiet_on
    refine Mixed.wpM_quiet rfl rfl rfl ?_; intro Kx hKx; go_big_quiet_op; go_big_quiet_on
    refine Mixed.wpM_call rfl rfl 30 #[.slice (some ⟨ub, 0, none⟩) N N, .int .i64 (i : Int), .int .i64 ((t : Int) - 2)] (by go_simp) ?_
    refine (HZ4.out w7.drew (fr_drewN Hw7.out 1)).mono ?_
    rintro ez wq ⟨rfl, rfl⟩
    refine ⟨_, rfl, ⟨⟨w7.drew, fr_drewN (Fr.refl _ _) 1⟩, rfl⟩, ?_⟩
    go_simp
    refine wpM_farith rfl rfl .mul (.inr (.inr rfl)) _ _ _ _ rfl rfl rfl ?_
    intro r4 q hr4
    have Hr4 := Lib.hid hr4
    refine ⟨⟨⟨w7.drew.drewN q, fr_drewN (fr_drewN (Fr.refl _ _) 1) q⟩, rfl⟩, ?_⟩
    clear hr4
    go_simp
    refine Mixed.wpM_quiet rfl rfl rfl ?_; intro Kx hKx; go_big_quiet_op; go_big_quiet_on
    refine Mixed.wpM_nil ?_
    intro nx hnx
    clear nx hnx kc hne hws
    obtain ⟨w8, hw8⟩ : ∃ w8, w7.drewN (1 + q) = w8 := ⟨_, rfl⟩
    have Hw8 : Hid (Fr (fun _ => False) w w8) := by unfold Hid; rw [← hw8]; exact fr_drewN Hw7.out (1 + q)
    replace c0 : w8.cell? ⟨cB, 0, none⟩ = some (.float .f64 b0) := by rw [← hw8]; exact c0
    replace c1 : w8.cell? ⟨cB, 1, none⟩ = some (.float .f64 b1) := by rw [← hw8]; exact c1
    replace c2 : w8.cell? ⟨cB, 2, none⟩ = some (.float .f64 b2) := by rw [← hw8]; exact c2
    replace c3 : w8.cell? ⟨cB, 3, none⟩ = some (.float .f64 a1) := by rw [← hw8]; exact c3
    replace c4 : w8.cell? ⟨cB, 4, none⟩ = some (.float .f64 a2) := by rw [← hw8]; exact c4
    have Gw8 : Hid (w.grownBy w8 none) := by unfold Hid; rw [← hw8]; exact grown_drewN Gw7.out (1 + q)
    simp only [hw8]
    clear hw8
    go_upto_region 32 with (refine wpList_farith _ rfl .add (.inl rfl) _ _ _ _ rfl rfl rfl ?_; intro y0 p0 hy0; have Hy0 := Lib.hid hy0; clear hy0)
    go_upto_region 33 with (refine wpList_farith _ rfl .add (.inl rfl) _ _ _ _ rfl rfl rfl ?_; intro y1 p1 hy1; have Hy1 := Lib.hid hy1; clear hy1)
    go_upto_region 34 with (refine wpList_farith _ rfl .sub (.inr (.inl rfl)) _ _ _ _ rfl rfl rfl ?_; intro y2 p2 hy2; have Hy2 := Lib.hid hy2; clear hy2)
    go_wp2_with (refine wpList_farith _ rfl .sub (.inr (.inl rfl)) _ _ _ _ rfl rfl rfl ?_; intro y3 p3 hy3; have Hy3 := Lib.hid hy3; clear hy3)
    go_ret
    exact ⟨y3, rfl, HE.out r0 r1 r2 r3 r4 y0 y1 y2 y3 Hr0.out Hr1.out Hr2.out Hr3.out Hr4.out Hy0.out Hy1.out Hy2.out Hy3.out, grown_drewN Gw8.out _⟩
  · -- a voice
    have HOP := Lib.hid (GVMod.okP_of (HVP.out rfl))
    have hat := GVHeld.at_after (GVHeld.at_start ⟨shape, step, gain, att, dec, rel, sus⟩) t
    rw [Nat.zero_add] at hat
    have VC := fun v => GVRefW.sample_calls ⟨shape, step, gain, att, dec, rel, sus⟩ (GVMod.after ⟨shape, step, gain, att, dec, rel, sus⟩ t GVWalk.st0) t (-1) v HOP.out (GVMod.after_ok GVWalk.st0_ok t) hat ht
    obtain ⟨z, hz⟩ : ∃ z, GVMod.smp ⟨shape, step, gain, att, dec, rel, sus⟩ (GVMod.after ⟨shape, step, gain, att, dec, rel, sus⟩ t GVWalk.st0) = z := ⟨_, rfl⟩
    rw [hz] at VC
    dsimp only at VC
    have HVC := Lib.hid VC
    have HE : Hid (cn z = S) := by
      unfold Hid
      rw [← HS.out]
      unfold smpN
      rw [if_neg (by rw [HK.out.1]; decide), if_neg (by rw [HK.out.1]; decide), if_neg (by rw [HK.out.1]; decide), if_neg (by rw [HK.out.1]; decide), if_neg (by rw [HK.out.1]; decide), if_neg (by rw [HK.out.1]; decide), if_pos HK.out.1, HK.out.2.2.2.2.2, hz]
    clear hat VC hz
    go_wp2_with (go_at_call 31; refine (HVC.out _).mono ?_; rintro ez w3 ⟨rfl, hg3⟩)
    go_ret
    exact ⟨z, rfl, HE.out, grown_trans HG1.out hg3.out⟩
  · exact absurd hmz h1
end Go.Proofs.Ytdliilmnfbgplaa.GRSamp
