/- Texts of the graph seat, in one file: GNew. -/
import Derived.Test.YtdliilmnfbgplaaGM6
/- A graph is laid out: the walk. -/
namespace Go.Proofs.Ytdliilmnfbgplaa.GNew
open Go Go.RowKit Go.Proofs.Ytdliilmnfbgplaa.GPiece Go.Proofs.Ytdliilmnfbgplaa.Fl Go.Proofs.Ytdliilmnfbgplaa.Fw Go.Proofs.Ytdliilmnfbgplaa.GRd Go.Proofs.Ytdliilmnfbgplaa.GCells Go.Proofs.Ytdliilmnfbgplaa.GStep Go.Proofs.Ytdliilmnfbgplaa.GMod Go.Proofs.Ytdliilmnfbgplaa.GOrd Go.Proofs.Ytdliilmnfbgplaa.GMem Go.Proofs.Ytdliilmnfbgplaa.GNode Go.Proofs.Ytdliilmnfbgplaa.GNode2 Go.Proofs.Ytdliilmnfbgplaa.GNode4 Go.Proofs.Ytdliilmnfbgplaa.GPMem Go.Proofs.Ytdliilmnfbgplaa.GPState Go.Proofs.Ytdliilmnfbgplaa.GRun Go.Proofs.Ytdliilmnfbgplaa.GMade Go.Proofs.Ytdliilmnfbgplaa.GClone Go.Proofs.Ytdliilmnfbgplaa.GSort1 Go.Proofs.Ytdliilmnfbgplaa.GSort Go.Proofs.Ytdliilmnfbgplaa.GNewS Go.Proofs.Ytdliilmnfbgplaa.GNewF Go.Proofs.Ytdliilmnfbgplaa.Hp Go.Proofs.Ytdliilmnfbgplaa.Rd Go.Proofs.Ytdliilmnfbgplaa.Opn
set_option linter.unusedVariables false
set_option linter.unusedSimpArgs false

theorem info53 : (Try.prog.info? 53).map (fun i => (i.zero, i.size, i.bytes)) = some (some (.agg #[.int .i64 0, .slice none 0 0, .int .i64 0, .float .f64 0, .float .f64 0, .float .f64 0, .float .f64 0, .float .f64 0, .float .f64 0, .int .i64 0, .int .u32 0, .float .f64 0, .int .i64 0, .int .i64 0, .int .i64 0, .int .i64 0]), 16, 144) := by kernel_rfl
theorem info71 : (Try.prog.info? 71).map (fun i => (i.zero, i.size, i.bytes)) = some (some .nilIface, 1, 16) := by kernel_rfl

/-- What the laying out has seen. -/
structure LoopS (g : Gd) (k c : Nat) (ps : List (Nd × Value)) : Prop where
  pm : ps.map Prod.fst = g.nodes.take k
  ch : c = chunkK (g.nodes.take k)
  c0 : 0 < c
  c1 : c ≤ 65536
  ok : ∀ x ∈ g.nodes.take k, madeE g x = 0
  first : firstE g g.nodes = firstE g (g.nodes.drop k)

theorem made6 {g : Gd} {x : Nd} (h : madeE g x = 0) (h6 : x.kind = 6) : 1 ≤ x.n ∧ x.n ≤ 4096 := (made_ok h).2.2.2.2.1 h6
theorem chunkK_next {l : List Nd} {k : Nat} {x : Nd} (h : l[k]? = some x) : chunkK (l.take (k + 1)) = if x.kind = 6 then min (chunkK (l.take k)) x.n.toNat else chunkK (l.take k) := by
  unfold chunkK
  rw [take_next h, List.foldl_append]
  rfl
theorem LoopS.next {g : Gd} {k c : Nat} {ps : List (Nd × Value)} (h : LoopS g k c ps) {x : Nd} (hx : g.nodes[k]? = some x) (he : madeE g x = 0) {f : Value} (hm : firstE g g.nodes = firstE g (x :: g.nodes.drop (k + 1))) {c2 : Nat} (hc : c2 = if x.kind = 6 then min c x.n.toNat else c) : LoopS g (k + 1) c2 (ps ++ [(x, f)]) := by
  refine ⟨?_, ?_, ?_, ?_, fun y hy => ?_, ?_⟩
  · rw [List.map_append, h.pm, take_next hx]
    rfl
  · rw [chunkK_next hx, ← h.ch]
    exact hc
  · rw [hc]
    split
    · rename_i h6
      have h1 := made6 he h6
      have h2 := h.c0
      omega
    · exact h.c0
  · rw [hc]
    have := h.c1
    split <;> omega
  · rw [take_next hx, List.mem_append, List.mem_singleton] at hy
    rcases hy with hy | rfl
    · exact h.ok y hy
    · exact he
  · rw [hm]
    conv => lhs; unfold firstE
    rw [if_neg (by rw [he]; simp)]

def NewP (w : World) (g : Gd) (e : Ending) (w' : World) : Prop :=
  Hid (w.grownBy w' none) ∧
  ((preE g ≠ 0 ∧ e = .returned (.tuple #[.pointer none, .int .i64 (preE g)])) ∨
   (preE g = 0 ∧ ∃ s, Hid (Vis g (s0 g.nodes.length) (.inr (List.range g.nodes.length)) false s) ∧ e = .returned (.tuple #[.pointer none, .int .i64 10])) ∨
   (preE g = 0 ∧ ∃ (s : Sr) (h : Hn) (Z : Nat → Prop) (A : Nat → Nat → Prop) (vs : List Value), Hid (Vis g (s0 g.nodes.length) (.inr (List.range g.nodes.length)) true s) ∧ e = .returned (.tuple #[.pointer (some ⟨h.gb, 0, none⟩), .int .i64 0]) ∧
     Hid (GSt w' Z A h g s.order (chunkK g.nodes) vs (g.nodes.map GMod.start)) ∧ Hid ((∀ b, Z b → w.heap.size ≤ b) ∧ (∀ i b, A i b → w.heap.size ≤ b) ∧ w.heap.size ≤ h.pb)))

theorem pre5 {g : Gd} (h : 256 < g.nodes.length ∨ 256 < g.outs.length ∨ g.ins < 0 ∨ 16 < g.ins) : preE g = 5 := if_pos h

set_option maxHeartbeats 8000000 in
set_option maxRecDepth 100000 in
theorem new_calls (A0 : Nat → Prop) (g : Gd) (na oa : Option Addr) (nc oc : Nat) (w : World) (hnd : NdsR w A0 (.slice na g.nodes.length nc) g.nodes) (hou : SlA 1 iC w A0 (.slice oa g.outs.length oc) g.outs)
    (hfl : ∀ x ∈ g.nodes, x.from_.length ≤ 1048576 ∧ x.pt.step < 4294967296) :
    Calls Try.prog 13 #[gdV g.ins (.slice na g.nodes.length nc) (.slice oa g.outs.length oc)] w fun e w' => NewP w g e w' := by
  obtain ⟨N, hN⟩ : ∃ N, g.nodes.length = N := ⟨_, rfl⟩
  obtain ⟨M, hM⟩ : ∃ M, g.outs.length = M := ⟨_, rfl⟩
  obtain ⟨ins, hins⟩ : ∃ ins, g.ins = ins := ⟨_, rfl⟩
  unfold gdV
  have HN := Lib.hid hN
  have HM := Lib.hid hM
  have HI := Lib.hid hins
  have P5 := Lib.hid (@pre5 g)
  rw [hN] at hnd ⊢
  rw [hM] at hou ⊢
  rw [hins]
  have HND := Lib.hid hnd
  have HOU := Lib.hid hou
  have HFL := Lib.hid hfl
  have HGA : Hid (w.grownBy (w.alloc (.cells #[.int .i64 ins, .slice na N nc, .slice oa M oc] 25)) none) := grown_alloc (grown_refl _ _) _
  have HAB : Hid ((w.alloc (.cells #[.int .i64 ins, .slice na N nc, .slice oa M oc] 25)).heap[w.heap.size]? = some (.cells #[.int .i64 ins, .slice na N nc, .slice oa M oc] 25 (0, 0))) := heap_alloc_new _ _
  clear hnd hou hfl hN hM hins
  go_enter Try.func13, Try.ntmps13
  by_cases h1 : 256 < N
  · have HE := Lib.hid (P5.out (.inl (by rw [HN.out]; exact h1)))
    have h1i : (256 : Int) < (N : Int) := by omega
    go_wp2_with fail
    go_ret2
    exact ⟨HGA.out, .inl ⟨by rw [HE.out]; decide, by rw [HE.out]; rfl⟩⟩
  have h1i : ¬ (256 : Int) < (N : Int) := by omega
  by_cases h2 : 256 < M
  · have HE := Lib.hid (P5.out (.inr (.inl (by rw [HM.out]; exact h2))))
    have h2i : (256 : Int) < (M : Int) := by omega
    go_wp2_with fail
    go_ret2
    exact ⟨HGA.out, .inl ⟨by rw [HE.out]; decide, by rw [HE.out]; rfl⟩⟩
  have h2i : ¬ (256 : Int) < (M : Int) := by omega
  by_cases h3 : ins < 0
  · have HE := Lib.hid (P5.out (.inr (.inr (.inl (by rw [HI.out]; exact h3)))))
    go_wp2_with fail
    go_ret2
    exact ⟨HGA.out, .inl ⟨by rw [HE.out]; decide, by rw [HE.out]; rfl⟩⟩
  by_cases h4 : 16 < ins
  · have HE := Lib.hid (P5.out (.inr (.inr (.inr (by rw [HI.out]; exact h4)))))
    go_wp2_with fail
    go_ret2
    exact ⟨HGA.out, .inl ⟨by rw [HE.out]; decide, by rw [HE.out]; rfl⟩⟩
  go_upto_region 3 with fail
  obtain ⟨wa, hwa⟩ : ∃ wa, w.alloc (.cells #[.int .i64 ins, .slice na N nc, .slice oa M oc] 25) = wa := ⟨_, rfl⟩
  obtain ⟨aB, haB⟩ : ∃ aB, w.heap.size = aB := ⟨_, rfl⟩
  have hsa : wa.heap.size = aB + 1 := by rw [← hwa, ← haB]; simp
  rw [hwa] at HGA HAB
  rw [haB] at HAB
  have HSA := Lib.hid hsa
  have HAE := Lib.hid haB
  simp only [hwa, haB]
  clear hwa haB hsa
  have a0 := cell_of HAB.out 0
  have a2 := cell_of HAB.out 2
  have hne := LaterX.nonempty (fun _ => False) wa
  have k0 : ∀ n2 : LaterX (fun _ => False) wa, n2.w.cell? ⟨aB, 0, none⟩ = some (.int .i64 ins) := LaterX.cell a0 id
  have k2 : ∀ n2 : LaterX (fun _ => False) wa, n2.w.cell? ⟨aB, 2, none⟩ = some (.slice oa M oc) := LaterX.cell a2 id
  have HOUA : Hid (SlA 1 iC wa.drew A0 (.slice oa M oc) g.outs) := HOU.out.grown (grown_drew HGA.out)
  have CC : Hid (Calls Try.prog 21 #[.slice oa M oc] wa.drew fun e w' => ∃ oa2 oc2, e = .returned (.slice oa2 M oc2) ∧ Hid (w'.ownsRow wa.drew.heap.size 3 1 (.slice oa2 M oc2) M (flC iC g.outs)) ∧ Hid (wa.drew.grownBy w' none)) := by
    have h := clone_calls A0 oa oc g.outs wa.drew (by rw [HM.out]; exact HOUA.out) (by rw [HM.out]; omega)
    rw [HM.out] at h
    exact h
  refine Mixed.wp_region_mixed (lateX (fun _ => False) wa) (fun k => k == 4 || k == 7) (by kernel_rfl) (by kernel_rfl) ⟨⟨wa.drew, fr_drewN (Fr.refl _ _) 1⟩, rfl⟩ ?_
  unfold lateX
  refine Mixed.wpM_quiet rfl rfl rfl ?_; intro Kx hKx; go_big_quiet_op; go_big_quiet_on
  refine Mixed.wpM_quiet rfl rfl rfl ?_; intro Kx hKx; go_big_quiet_op; go_big_quiet_on
  refine Mixed.wpM_quiet rfl rfl rfl ?_; intro Kx hKx; go_big_quiet_op; go_big_quiet_on
  refine Mixed.wpM_quiet rfl rfl rfl ?_; intro Kx hKx; go_big_quiet_op; go_big_quiet_on
  refine Mixed.wpM_call rfl rfl 21 #[.slice oa M oc] (by go_simp) ?_
  refine (CC.out).mono ?_
  rintro ez w3 ⟨oa2, oc2, rfl, ho3, hg3⟩
  have hg3' : wa.grownBy w3 none := grown_trans (grown_drew (grown_refl _ _)) hg3.out
  refine ⟨_, rfl, ⟨⟨w3, .none hg3'⟩, rfl⟩, ?_⟩
  go_simp
  refine Mixed.wpM_quiet rfl rfl rfl ?_; intro Kx hKx; go_big_quiet_op; go_big_quiet_on
  refine Mixed.wpM_quiet rfl rfl rfl ?_; intro Kx hKx; go_big_quiet_op; go_big_quiet_on
  refine Mixed.wpM_make rfl rfl (.pointer (some ⟨w3.heap.size, 0, none⟩)) (w3.alloc (.cells #[.int .i64 ins, .slice none 0 0, .slice oa2 M oc2, .slice none 0 0, .slice none 0 0, .int .i64 65536, .slice none 0 0] 69)) (by go_simp) ⟨⟨_, .none (grown_alloc hg3' _)⟩, rfl⟩ ?_
  go_simp
  refine Mixed.wpM_quiet rfl rfl rfl ?_; intro Kx hKx; go_big_quiet_op; go_big_quiet_on
  refine Mixed.wpM_nil ?_
  intro nx hnx
  clear nx hnx k0 k2 hne
  have hg34 : w3.grownBy (w3.alloc (.cells #[.int .i64 ins, .slice none 0 0, .slice oa2 M oc2, .slice none 0 0, .slice none 0 0, .int .i64 65536, .slice none 0 0] 69)) none := grown_alloc (grown_refl _ _) _
  have hgb4 := heap_alloc_new w3 (.cells #[.int .i64 ins, .slice none 0 0, .slice oa2 M oc2, .slice none 0 0, .slice none 0 0, .int .i64 65536, .slice none 0 0] 69)
  obtain ⟨w4, hw4⟩ : ∃ w4, w3.alloc (.cells #[.int .i64 ins, .slice none 0 0, .slice oa2 M oc2, .slice none 0 0, .slice none 0 0, .int .i64 65536, .slice none 0 0] 69) = w4 := ⟨_, rfl⟩
  rw [hw4] at hg34 hgb4
  simp only [hw4]
  have HG4 : Hid (wa.grownBy w4 none) := grown_trans hg3' hg34
  have hsz4 : w4.heap.size = w3.heap.size + 1 := by rw [← hw4]; simp
  have hsz3 := hg3.out.size
  have hszd : wa.drew.heap.size = wa.heap.size := rfl
  have hsza := HSA.out
  unfold Hid at hsza
  have HW0 : Hid (NwS (aB + 1) w4 w3.heap.size g (.slice oa2 M oc2) 0 0 65536 none 0 none 0 [] [] (fun b => (Value.slice oa2 M oc2).ownBlock = some b) (fun _ _ => False)) := by
    refine ⟨by rw [HI.out]; exact hgb4, World.ownsRow_nil _ _ _ _, World.ownsRow_nil _ _ _ _, rfl, rfl, fun p hp => by simp at hp, ?_, fun i v x hv => by simp at hv, fun b hb => ?_, fun i b hb => hb.elim, fun i b _ hb => hb, fun i j b hb => hb.elim, by omega, by simp [Value.ownBlock], by simp [Value.ownBlock], fun b hb => by simp [Value.ownBlock] at hb⟩
    · exact sla_of_own iC_len (xs := g.outs) (by rw [HM.out]; exact own_kept ho3.out hg34) _ (fun b hb => hb)
    · have h := own_base ho3.out hb
      exact ⟨by omega, by omega, by omega, by simp [Value.ownBlock], by simp [Value.ownBlock]⟩
  obtain ⟨gb, hgb⟩ : ∃ gb, w3.heap.size = gb := ⟨_, rfl⟩
  rw [hgb] at HW0
  have HGBA : Hid (wa.heap.size ≤ gb) := by unfold Hid; omega
  simp only [hgb]
  have e0 := grown_cell HG4.out a0 (by simp)
  have e1 := grown_cell HG4.out (cell_of HAB.out 1) (by simp)
  clear hg34 hgb4 hw4 hsz4 hsz3 hszd hsza hgb hg3' hg3 ho3 HOUA CC a0 a2
  go_wp2_with fail
  go_loopw [44] (fun v44 wr => ∃ (k c : Nat) (na2 : Option Addr) (nc2 : Nat) (va2 : Option Addr) (vc2 : Nat) (ps : List (Nd × Value)) (vs : List Value) (Q : Nat → Prop) (A : Nat → Nat → Prop), k ≤ N ∧ v44 = .int .i64 (k : Int) ∧ Hid (NwS (aB + 1) wr gb g (.slice oa2 M oc2) k k c na2 nc2 va2 vc2 ps vs Q A) ∧ Hid (wa.grownBy wr none) ∧ Hid (LoopS g k c ps)) (fun v44 _ => N - (intOf v44).toNat)
  case atStart => exact ⟨0, 65536, none, 0, none, 0, [], [], _, _, Nat.zero_le _, rfl, HW0.out, HG4.out, ⟨rfl, rfl, by omega, by omega, fun x hx => by simp at hx, rfl⟩⟩
  case round =>
    obtain ⟨k, c, na2, nc2, va2, vc2, ps, vs, Q, A, hk, rfl, HNW, HGR, HLS⟩ := hrel
    obtain ⟨wz, hwz⟩ : ∃ wz : World, wz = wr := ⟨_, rfl⟩
    subst hwz
    clear e0 e1
    by_cases hkN : k = N
    · have h2 := hkN.symm
      subst h2
      clear hkN
      have HPM : Hid (ps.map Prod.fst = g.nodes) := by
        unfold Hid
        rw [HLS.out.pm, List.take_of_length_le (Nat.le_of_eq HN.out)]
      have HCH : Hid (c = chunkK g.nodes ∧ 0 < c ∧ c ≤ 65536) := ⟨by rw [HLS.out.ch, List.take_of_length_le (Nat.le_of_eq HN.out)], HLS.out.c0, HLS.out.c1⟩
      have HMO : Hid (∀ x ∈ g.nodes, madeE g x = 0) := fun x hx => HLS.out.ok x (by rw [List.take_of_length_le (Nat.le_of_eq HN.out)]; exact hx)
      have HP0 : Hid (preE g = if g.outs.any (badRef N) = true then 8 else 0) := by
        have h0 : firstE g g.nodes = 0 := by
          rw [HLS.out.first, List.drop_of_length_le (Nat.le_of_eq HN.out)]
          rfl
        unfold Hid preE
        rw [if_neg (by rw [HN.out, HM.out, HI.out]; omega), if_neg (by rw [h0]; simp), HN.out]
      have e2 := grown_cell HGR.out (cell_of HAB.out 2) (by simp)
      have e1 := grown_cell HGR.out (cell_of HAB.out 1) (by simp)
      have HGW : Hid (w.grownBy wz none) := grown_trans HGA.out HGR.out
      go_upto_region 18 with fail
      go_loopw [12, 103] (fun v12 v103 wr => ∃ q : Nat, q ≤ M ∧ v103 = .int .i64 (q : Int) ∧ wz = wr ∧ Hid (g.outs.any (badRef N) = (g.outs.drop q).any (badRef N))) (fun _ v103 _ => M - (intOf v103).toNat)
      case atStart => exact ⟨0, Nat.zero_le _, rfl, rfl, rfl⟩
      case round =>
        obtain ⟨q, hq, rfl, hwr, HAN⟩ := hrel
        subst hwr
        by_cases hqM : q = M
        · have h2 := hqM.symm
          subst h2
          clear hqM
          have HAF : Hid (g.outs.any (badRef N) = false) := by
            unfold Hid
            rw [HAN.out, List.drop_of_length_le (Nat.le_of_eq HM.out)]
            rfl
          have HPZ : Hid (preE g = 0) := by
            unfold Hid
            rw [HP0.out, HAF.out]
            rfl
          have hgq : ∀ b, (Q b ∨ (Value.slice na2 N nc2).ownBlock = some b ∨ (Value.slice va2 N vc2).ownBlock = some b) → b < wz.heap.size ∧ b ≠ gb := by
            rintro b (e | e | e)
            · exact ⟨(HNW.out.q b e).2.1, (HNW.out.q b e).2.2.1⟩
            · exact ⟨(own_base HNW.out.nown e).2, fun e2 => HNW.out.ng (by rw [e, e2])⟩
            · exact ⟨(own_base HNW.out.vown e).2, fun e2 => HNW.out.vg (by rw [e, e2])⟩
          have SC := Lib.hid (sort_calls (fun b => Q b ∨ (Value.slice na2 N nc2).ownBlock = some b ∨ (Value.slice va2 N vc2).ownBlock = some b) g vs gb (.int .i64 g.ins) (.slice oa2 M oc2) (.int .i64 (c : Int)) (.slice none 0 0) N na2 va2 nc2 vc2 wz HNW.out.row HN.out (by omega) hgq
            ⟨ps, HPM.out, sla_of_own ndC_len (xs := ps) (by rw [HNW.out.pl]; exact HNW.out.nown) _ (fun b hb => .inr (.inl hb)), fun p hp => (HNW.out.fs p hp).mono (fun b => .inl)⟩
            (sla_of_own vC_len (xs := vs) (by rw [HNW.out.vl]; exact HNW.out.vown) _ (fun b hb => .inr (.inr hb))) HNW.out.vl
            (fun i v hv => by
              have hi : i < g.nodes.length := by rw [HN.out, ← HNW.out.vl]; exact (List.getElem?_eq_some_iff.1 hv).1
              obtain ⟨x, hx⟩ : ∃ x, g.nodes[i]? = some x := ⟨g.nodes[i], List.getElem?_eq_getElem _⟩
              obtain ⟨T, u, h1, h2⟩ := latent (HNW.out.ns i v x hv hx)
              refine ⟨T, u, h1, ?_⟩
              rw [start_del] at h2
              unfold isD
              rw [hx]
              exact h2)
            (fun i y hy => ⟨by have h := (HFL.out y (List.mem_of_getElem? hy)).1; omega, by rw [← HN.out]; exact (made_ok (HMO.out y (List.mem_of_getElem? hy))).2.2.1⟩))
          clear hgq
          obtain ⟨j0, hj38, hj0, hj1, hj2⟩ := info_parts info38
          go_upto_region 24 with (first | (go_at_call 23; refine (SC.out).mono ?_; rintro ez w2 ⟨b, s, rfl, hv, hf2, hsl, ra, rc, hrow2, hown2⟩; have HROW := Lib.hid hrow2; have z3 := cell_of hrow2 3; cases b) | (at_make; refine wpList_make_full _ rfl _ _ 32 rfl w2.heap.size 38 j0 (.slice none 0 0) 1 Try.underlying32 hj38 hj0 hj1 _ _ _ _ N rfl rfl rfl rfl (by rw [hj2]; omega) (by unfold maxLen; omega) (Nat.le_refl _) ?_; intro w3 hown3 hg3; have HOWN3 := Lib.hid hown3; have HG3 := Lib.hid hg3; have hr6 := row_kept hg3 HROW.out (by simp); have z6 := cell_of hr6 6; have zf := free_of hr6 6; clear hown3 hg3 hr6))
          · have hgba := HGBA.out
            unfold Hid at hgba
            have HG2 : Hid (w.grownBy w2 none) := Fr.grown ((Fr.none HGW.out).trans hf2.out) (fun i hi => by
              have h1 := HGA.out.size
              omega)
            have HV2 : Hid (Vis g (s0 g.nodes.length) (.inr (List.range g.nodes.length)) false s) := by unfold Hid; rw [HN.out]; exact hv.out
            clear hgba hv hf2 hrow2 hown2 z3
            go_wp2_with fail
            go_ret2
            exact ⟨HG2.out, .inr (.inl ⟨HPZ.out, s, HV2.out, rfl⟩)⟩
          · have hgba := HGBA.out
            unfold Hid at hgba
            have hG2 : w.grownBy w2 none := Fr.grown ((Fr.none HGW.out).trans hf2.out) (fun i hi => by
              have h1 := HGA.out.size
              omega)
            have HG2 := Lib.hid hG2
            have HV2 : Hid (Vis g (s0 g.nodes.length) (.inr (List.range g.nodes.length)) true s) := by unfold Hid; rw [HN.out]; exact hv.out
            have HOWN := Lib.hid hown2
            have HF2 := Lib.hid hf2.out
            have HWG : Hid (w.heap.size ≤ wa.heap.size ∧ wa.heap.size ≤ gb) := ⟨HGA.out.size, hgba⟩
            clear hgba hG2 hv hf2 hrow2 hown2
            go_ret2
            have hpb : w3.heap[w2.heap.size]? = some (.cells (List.replicate N (.slice none 0 0)).toArray 38 (0, 0)) := by
              have h := HOWN3.out
              rw [show (madeCells (Value.slice none 0 0).cells (N * 1)).toList = List.replicate N (Value.slice none 0 0) from by rw [Nat.mul_one]; exact madeCells_one _ _] at h
              exact new_of_made h
            have hok : GOk g s.order (g.nodes.map GMod.start) := gok_new (by rw [HN.out]; omega) HMO.out (fun x hx => (HFL.out x hx).1) HV2.out (by rw [HN.out]; exact hsl) (by rw [HM.out]; omega) (fun k hk => by
              have h4 : badRef N k = false := by
                have h5 := HAF.out
                unfold Hid at h5
                rw [List.any_eq_false] at h5
                have := h5 k hk
                simpa using this
              unfold badRef at h4
              simp only [Bool.or_eq_false_iff, decide_eq_false_iff_not] at h4
              rw [HN.out]
              omega) (by rw [HI.out]; omega)
            have HGST := NwS.fin HNW.out HPM.out HN.out HM.out HF2.out HROW.out HOWN.out HG3.out hpb (Nat.le_refl _) hok HCH.out.2
            have hch := HCH.out.1
            have hwg := HWG.out
            unfold Hid at hwg
            have hsw := HGW.out.size
            have hs2 := HF2.out.size
            have hbw := HSA.out
            have hae := HAE.out
            unfold Hid at hbw hae
            refine ⟨grown_set (p := ⟨gb, 6, none⟩) (grown_trans HG2.out HG3.out) (.inr (by dsimp only; omega)) _, .inr (.inr ⟨HPZ.out, s, ⟨gb, w2.heap.size, na2, nc2, oa2, oc2, va2, vc2, ra, rc⟩, _, A, vs, HV2.out, rfl, by rw [← hch]; exact HGST, ?_, fun i b hb => ?_, ?_⟩)⟩
            · rintro b (e | e | e | e | e)
              · have := (HNW.out.q b e).1
                omega
              · omega
              · have := (own_base HNW.out.nown e).1
                omega
              · have := (own_base HNW.out.vown e).1
                omega
              · have := (own_base HOWN.out e).1
                omega
            · have := (HNW.out.a i b hb).1
              omega
            · dsimp only
              omega
        have hql : (q : Int) < (M : Int) := by omega
        have hql2 : q < M := by omega
        have hwq : IntKind.i64.wrap ((q : Int) + 1) = (q : Int) + 1 := IntWalk.i64_in _ (by omega)
        obtain ⟨kz, hkz⟩ : ∃ kz, g.outs[q]? = some kz := ⟨g.outs[q]'(by rw [HM.out]; exact hql2), List.getElem?_eq_getElem _⟩
        obtain ⟨b6, o6, rfl, hA6, hcell⟩ := sla_at HOU.out hkz
        have u1 := grown_cell HGW.out (hcell 0 _ rfl) (by simp)
        rw [Nat.mul_one, Nat.add_zero] at u1
        have HD : Hid (g.outs.any (badRef N) = (badRef N kz || (g.outs.drop (q + 1)).any (badRef N))) := by
          unfold Hid
          rw [HAN.out]
          obtain ⟨hh, he⟩ := List.getElem?_eq_some_iff.1 hkz
          rw [List.drop_eq_getElem_cons hh, he]
          rfl
        clear hcell hkz
        by_cases hb1 : kz < 0
        · have HE : Hid (preE g = 8) := by unfold Hid; rw [HP0.out, if_pos (by rw [HD.out]; simp [badRef, hb1])]
          go_wp2_with fail
          go_ret2
          exact ⟨HGW.out, .inl ⟨by rw [HE.out]; decide, by rw [HE.out]; rfl⟩⟩
        by_cases hb2 : (N : Int) ≤ kz
        · have HE : Hid (preE g = 8) := by unfold Hid; rw [HP0.out, if_pos (by rw [HD.out]; simp [badRef, hb2])]
          go_wp2_with fail
          go_ret2
          exact ⟨HGW.out, .inl ⟨by rw [HE.out]; decide, by rw [HE.out]; rfl⟩⟩
        have HD2 : Hid (g.outs.any (badRef N) = (g.outs.drop (q + 1)).any (badRef N)) := by
          unfold Hid
          rw [HD.out]
          simp [badRef, hb1, hb2]
        go_wp2_with fail
        refine ⟨?_, by simp [intOf]; omega⟩
        first
          | exact ⟨q + 1, by omega, rfl, trivial, HD2.out⟩
          | (repeat apply Exists.intro
             refine ⟨?_, rfl⟩
             exact ⟨q + 1, by omega, rfl, trivial, HD2.out⟩)
    have hkl : (k : Int) < (N : Int) := by omega
    have hkl2 : k < N := by omega
    have hwk : IntKind.i64.wrap ((k : Int) + 1) = (k : Int) + 1 := IntWalk.i64_in _ (by omega)
    obtain ⟨x, hx⟩ : ∃ x, g.nodes[k]? = some x := ⟨g.nodes[k]'(by rw [HN.out]; exact hkl2), List.getElem?_eq_getElem _⟩
    obtain ⟨b6, o6, fa, fc, rfl, hA6, hrg, _, hfs⟩ := nds_at HND.out hx
    have hfx := HFL.out x (List.mem_of_getElem? hx)
    have HX := Lib.hid hx
    have hGW := grown_trans HGA.out HGR.out
    have HGW := Lib.hid hGW
    have HMK : Hid (firstE g g.nodes = firstE g (x :: g.nodes.drop (k + 1))) := by
      unfold Hid
      obtain ⟨hh, he⟩ := List.getElem?_eq_some_iff.1 hx
      rw [HLS.out.first, List.drop_eq_getElem_cons hh, he]
    have HMC := fun (v : World) (hv : wz.grownBy v none) => made_calls A0 g x (some ⟨b6, o6, none⟩) oa fa nc oc fc v (hfs.grown (grown_trans hGW hv)) (by omega) (by rw [HN.out]; omega) hfx.2
    rw [HN.out, HM.out, HI.out] at HMC
    have hst75 := @latent
    obtain ⟨kind, fr, n, xx, ⟨b0, b1, b2, a1, a2⟩, ⟨shape, step, gain, att, dec, rel, sus⟩⟩ := x
    unfold gdV ndV at HMC
    dsimp only at HMC hfs hfx
    obtain ⟨F, hF⟩ : ∃ F, fr.length = F := ⟨_, rfl⟩
    have HF := Lib.hid hF
    rw [hF] at HMC hfs hfx hrg
    obtain ⟨x, hx2⟩ : ∃ x : Nd, (⟨kind, fr, n, xx, ⟨b0, b1, b2, a1, a2⟩, ⟨shape, step, gain, att, dec, rel, sus⟩⟩ : Nd) = x := ⟨_, rfl⟩
    have HXE := Lib.hid hx2
    rw [hx2] at HMC HMK HX
    have d0 := grown_cell hGW (hrg 0 _ rfl) (by simp)
    rw [Nat.add_zero] at d0
    have d1 := grown_cell hGW (hrg 1 _ rfl) (by simp)
    have d2 := grown_cell hGW (hrg 2 _ rfl) (by simp)
    have d3 := grown_cell hGW (hrg 3 _ rfl) (by simp)
    have d4 := grown_cell hGW (hrg 4 _ rfl) (by simp)
    have d5 := grown_cell hGW (hrg 5 _ rfl) (by simp)
    have d6 := grown_cell hGW (hrg 6 _ rfl) (by simp)
    have d7 := grown_cell hGW (hrg 7 _ rfl) (by simp)
    have d8 := grown_cell hGW (hrg 8 _ rfl) (by simp)
    have d9 := grown_cell hGW (hrg 9 _ rfl) (by simp)
    have d10 := grown_cell hGW (hrg 10 _ rfl) (by simp)
    have d11 := grown_cell hGW (hrg 11 _ rfl) (by simp)
    have d12 := grown_cell hGW (hrg 12 _ rfl) (by simp)
    have d13 := grown_cell hGW (hrg 13 _ rfl) (by simp)
    have d14 := grown_cell hGW (hrg 14 _ rfl) (by simp)
    have d15 := grown_cell hGW (hrg 15 _ rfl) (by simp)
    have e0 := grown_cell HGR.out (cell_of HAB.out 0) (by simp)
    have e1 := grown_cell HGR.out (cell_of HAB.out 1) (by simp)
    have e2 := grown_cell HGR.out (cell_of HAB.out 2) (by simp)
    have HFS := Lib.hid hfs
    have hfx1 := hfx.1
    have HC := Lib.hid HMC
    clear HMC hx hx2 hrg hfs hfx hGW hF hst75
    go_upto_region 7 with fail
    have hgz5 : wz.grownBy (wz.alloc (.cells #[.int .i64 kind, .slice fa F fc, .int .i64 n, .float .f64 xx, .float .f64 b0, .float .f64 b1, .float .f64 b2, .float .f64 a1, .float .f64 a2, .int .i64 shape, .int .u32 step, .float .f64 gain, .int .i64 att, .int .i64 dec, .int .i64 rel, .int .i64 sus] 53)) none := grown_alloc (grown_refl _ _) _
    have hdb5 := heap_alloc_new wz (.cells #[.int .i64 kind, .slice fa F fc, .int .i64 n, .float .f64 xx, .float .f64 b0, .float .f64 b1, .float .f64 b2, .float .f64 a1, .float .f64 a2, .int .i64 shape, .int .u32 step, .float .f64 gain, .int .i64 att, .int .i64 dec, .int .i64 rel, .int .i64 sus] 53)
    have hsz5 : (wz.alloc (.cells #[.int .i64 kind, .slice fa F fc, .int .i64 n, .float .f64 xx, .float .f64 b0, .float .f64 b1, .float .f64 b2, .float .f64 a1, .float .f64 a2, .int .i64 shape, .int .u32 step, .float .f64 gain, .int .i64 att, .int .i64 dec, .int .i64 rel, .int .i64 sus] 53)).heap.size = wz.heap.size + 1 := by simp
    obtain ⟨w5, hw5⟩ : ∃ w5, wz.alloc (.cells #[.int .i64 kind, .slice fa F fc, .int .i64 n, .float .f64 xx, .float .f64 b0, .float .f64 b1, .float .f64 b2, .float .f64 a1, .float .f64 a2, .int .i64 shape, .int .u32 step, .float .f64 gain, .int .i64 att, .int .i64 dec, .int .i64 rel, .int .i64 sus] 53) = w5 := ⟨_, rfl⟩
    rw [hw5] at hgz5 hdb5 hsz5
    obtain ⟨dB, hdB⟩ : ∃ dB, wz.heap.size = dB := ⟨_, rfl⟩
    rw [hdB] at hdb5 hsz5
    have HDB5 := Lib.hid hdb5
    have HS5 := Lib.hid hsz5
    have HDE := Lib.hid hdB
    have HG5 := Lib.hid hgz5
    have HNW5 := Lib.hid (HNW.out.grown hgz5)
    simp only [hw5, hdB]
    replace e0 := grown_cell hgz5 e0 (by simp)
    replace e1 := grown_cell hgz5 e1 (by simp)
    replace e2 := grown_cell hgz5 e2 (by simp)
    have f0 := cell_of HDB5.out 0
    have f1 := cell_of HDB5.out 1
    have f2 := cell_of HDB5.out 2
    have f3 := cell_of HDB5.out 3
    have f4 := cell_of HDB5.out 4
    have f5 := cell_of HDB5.out 5
    have f6 := cell_of HDB5.out 6
    have f7 := cell_of HDB5.out 7
    have f8 := cell_of HDB5.out 8
    have f9 := cell_of HDB5.out 9
    have f10 := cell_of HDB5.out 10
    have f11 := cell_of HDB5.out 11
    have f12 := cell_of HDB5.out 12
    have f13 := cell_of HDB5.out 13
    have f14 := cell_of HDB5.out 14
    have f15 := cell_of HDB5.out 15
    have MC := Lib.hid (HC.out w5 hgz5)
    clear hw5 hdB hdb5 hsz5 hgz5 HC d0 d1 d2 d3 d4 d5 d6 d7 d8 d9 d10 d11 d12 d13 d14 d15
    go_upto_region 8 with (go_at_call 22; refine (MC.out).mono ?_; rintro ez w6 ⟨v, rfl, hg6, hn6⟩)
    obtain ⟨E, hE⟩ : ∃ E, madeE g x = E := ⟨_, rfl⟩
    have HE := Lib.hid hE
    rw [hE] at hn6
    simp only [hE]
    clear hE
    by_cases hE0 : E = 0
    case neg =>
      have HP : Hid (preE g = E) := by
        unfold Hid preE
        rw [if_neg (by rw [HN.out, HM.out, HI.out]; omega), HMK.out]
        unfold firstE
        rw [HE.out, if_pos hE0, if_pos hE0]
      go_wp2_with fail
      go_ret2
      exact ⟨grown_trans HGW.out (grown_trans HG5.out hg6.out), .inl ⟨by rw [HP.out]; exact hE0, by rw [HP.out]; rfl⟩⟩
    subst hE0
    have HN6 : Hid (NodeR w6 (fun b => w5.heap.size ≤ b ∧ b < w6.heap.size) v (GMod.start x)) := (hn6 rfl).out
    obtain ⟨T, u, rfl, hta⟩ := latent HN6.out
    have HTA := Lib.hid hta
    clear hta
    have HDB6 := Lib.hid (row_kept hg6.out HDB5.out (by simp))
    have HG6 := Lib.hid hg6.out
    have q1 := cell_of HDB6.out 1
    have CC2 : Hid (Calls Try.prog 21 #[.slice fa F fc] w6 fun e w' => ∃ oa2 oc2, e = .returned (.slice oa2 F oc2) ∧ Hid (w'.ownsRow w6.heap.size 3 1 (.slice oa2 F oc2) F (flC iC fr)) ∧ Hid (w6.grownBy w' none)) := by
      have h := clone_calls A0 fa fc fr w6 (by rw [HF.out]; exact HFS.out.grown (grown_trans HGW.out (grown_trans HG5.out HG6.out))) (by rw [HF.out]; omega)
      rw [HF.out] at h
      exact h
    clear hn6 hg6 MC f0 f1 f2 f3 f4 f5 f6 f7 f8 f9 f10 f11 f12 f13 f14 f15 e0 e1 e2
    go_upto_region 11 with (go_at_call 21; refine (CC2.out).mono ?_; rintro ez w7 ⟨ca, cc, rfl, ho7, hg7⟩; have r1 := grown_cell hg7.out q1 (by simp); have rf := free_of (row_kept hg7.out HDB6.out (by simp)) 1)
    have hdb7 := row_kept hg7.out HDB6.out (by simp)
    have HDB8 : Hid ((w7.setCell ⟨dB, 1, none⟩ (.slice ca F cc)).heap[dB]? = some (.cells #[.int .i64 kind, .slice ca F cc, .int .i64 n, .float .f64 xx, .float .f64 b0, .float .f64 b1, .float .f64 b2, .float .f64 a1, .float .f64 a2, .int .i64 shape, .int .u32 step, .float .f64 gain, .int .i64 att, .int .i64 dec, .int .i64 rel, .int .i64 sus] 53 (0, 0))) := set_self hdb7 _
    have hds := HDE.out
    unfold Hid at hds
    have hdl := lt_of hdb7
    have hf78 : Fr (fun b => b = dB) w7 (w7.setCell ⟨dB, 1, none⟩ (.slice ca F cc)) := fr_set (X := fun b => b = dB) (p := ⟨dB, 1, none⟩) (Fr.refl _ _) (.inl rfl) _
    have HG68 : Hid (wz.grownBy (w7.setCell ⟨dB, 1, none⟩ (.slice ca F cc)) none) := by
      refine grown_set (p := ⟨dB, 1, none⟩) (grown_trans HG5.out (grown_trans HG6.out hg7.out)) (.inr ?_) _
      dsimp only
      omega
    have hs6 : w5.heap.size ≤ w6.heap.size := HG6.out.size
    have hs7 : w6.heap.size ≤ w7.heap.size := hg7.out.size
    have hs8 : (w7.setCell ⟨dB, 1, none⟩ (.slice ca F cc)).heap.size = w7.heap.size := size_set _ _ _
    have hs5 := HS5.out
    unfold Hid at hs5
    have HSZ : Hid (dB < w5.heap.size ∧ w5.heap.size ≤ w6.heap.size ∧ w6.heap.size ≤ w7.heap.size ∧ (w7.setCell ⟨dB, 1, none⟩ (.slice ca F cc)).heap.size = w7.heap.size ∧ wz.heap.size = dB) := ⟨by omega, hs6, hs7, hs8, hds⟩
    have HN8 : Hid (NodeR (w7.setCell ⟨dB, 1, none⟩ (.slice ca F cc)) (fun b => w5.heap.size ≤ b ∧ b < w6.heap.size) (.iface T u) (GMod.start x)) := (HN6.out.fr (X := fun _ => False) (.none hg7.out) (fun _ _ => id)).fr hf78 (fun b hb e => by omega)
    have HCL8 : Hid (SlA 1 iC (w7.setCell ⟨dB, 1, none⟩ (.slice ca F cc)) (fun b => w6.heap.size ≤ b ∧ b < w7.heap.size) (.slice ca F cc) fr) := (sla_of_own iC_len (xs := fr) (by rw [HF.out]; exact ho7.out) (fun b => w6.heap.size ≤ b ∧ b < w7.heap.size) (fun b hb => own_base ho7.out hb)).fr hf78 (fun b hb e => by omega)
    have HNW8 := Lib.hid (HNW.out.grown HG68.out)
    obtain ⟨w8, hw8⟩ : ∃ w8, w7.setCell ⟨dB, 1, none⟩ (.slice ca F cc) = w8 := ⟨_, rfl⟩
    rw [hw8] at HDB8 HG68 HSZ HN8 HCL8 HNW8
    simp only [hw8]
    clear hw8 hdb7 hds hdl hf78 hs6 hs7 hs8 hs5 ho7 hg7 r1 rf q1 CC2 HNW5 HN6 HDB6 HDB5
    go_cut [72] from 61 to 72 (fun _ wx => ∃ na3 nc3, Hid (NwS (aB + 1) wx gb g (.slice oa2 M oc2) (k + 1) k c na3 nc3 va2 vc2 (ps ++ [(x, .slice ca F cc)]) vs (fun b => Q b ∨ (w6.heap.size ≤ b ∧ b < w7.heap.size)) A) ∧ Hid (wa.grownBy wx none) ∧ Hid (NodeR wx (fun b => w5.heap.size ≤ b ∧ b < w6.heap.size) (.iface T u) (GMod.start x)) ∧ Hid (w8.heap.size ≤ wx.heap.size) ∧ Hid (∀ b, (Value.slice na3 (k + 1) nc3).ownBlock = some b → b < dB ∨ w8.heap.size ≤ b))
    case first =>
      have p0 := cell_of HDB8.out 0
      have p1 := cell_of HDB8.out 1
      have p2 := cell_of HDB8.out 2
      have p3 := cell_of HDB8.out 3
      have p4 := cell_of HDB8.out 4
      have p5 := cell_of HDB8.out 5
      have p6 := cell_of HDB8.out 6
      have p7 := cell_of HDB8.out 7
      have p8 := cell_of HDB8.out 8
      have p9 := cell_of HDB8.out 9
      have p10 := cell_of HDB8.out 10
      have p11 := cell_of HDB8.out 11
      have p12 := cell_of HDB8.out 12
      have p13 := cell_of HDB8.out 13
      have p14 := cell_of HDB8.out 14
      have p15 := cell_of HDB8.out 15
      have g1 := cell_of HNW8.out.row 1
      have g1f := free_of HNW8.out.row 1
      have HOWD : Hid (∀ w', w8.grownBy w' none → w'.ownsRow (aB + 1) 53 16 (.slice na2 k nc2) k (flC ndC ps)) := fun w' hg => own_kept HNW8.out.nown hg
      have HBS : Hid (aB + 1 ≤ w8.heap.size) := by
        have h1 := lt_of HNW8.out.row
        have h2 := HNW8.out.gbB
        unfold Hid
        omega
      have HNG : Hid ((Value.slice na2 k nc2).ownBlock ≠ some gb) := HNW8.out.ng
      have ga1 : ∀ o, (w8.alloc o).cell? ⟨gb, 1, none⟩ = some (.slice na2 k nc2) := fun o => cell_of (row_kept (grown_alloc (grown_refl _ none) _) HNW8.out.row (by simp)) 1
      have gd1 : ∀ o, (w8.alloc o).drew.cell? ⟨gb, 1, none⟩ = some (.slice na2 k nc2) := fun o => cell_of (row_kept (grown_drew (grown_alloc (grown_refl _ none) _)) HNW8.out.row (by simp)) 1
      obtain ⟨j0, hj, hz0', hz1', hz2'⟩ := info_parts info53
      go_region_law (refine step_append_lies _ rfl (.tmp 66) (.tmp 68) 22 rfl (aB + 1) 53 j0 (.agg #[.int .i64 0, .slice none 0 0, .int .i64 0, .float .f64 0, .float .f64 0, .float .f64 0, .float .f64 0, .float .f64 0, .float .f64 0, .int .i64 0, .int .u32 0, .float .f64 0, .int .i64 0, .int .i64 0, .int .i64 0, .int .i64 0]) 16 144 Try.underlying22 hj hz0' hz1' hz2' rfl (by decide) (.slice na2 k nc2) k (flC ndC ps) rfl (HOWD.out _ (by repeat (first | exact grown_alloc (grown_refl _ _) _ | refine grown_drew ?_))) ⟨w8.heap.size, 0, none⟩ 1 1 [.int .i64 kind, .slice ca F cc, .int .i64 n, .float .f64 xx, .float .f64 b0, .float .f64 b1, .float .f64 b2, .float .f64 a1, .float .f64 a2, .int .i64 shape, .int .u32 step, .float .f64 gain, .int .i64 att, .int .i64 dec, .int .i64 rel, .int .i64 sus] rfl rfl (World.news_of_block (cs := #[.int .i64 kind, .slice ca F cc, .int .i64 n, .float .f64 xx, .float .f64 b0, .float .f64 b1, .float .f64 b2, .float .f64 a1, .float .f64 a2, .int .i64 shape, .int .u32 step, .float .f64 gain, .int .i64 att, .int .i64 dec, .int .i64 rel, .int .i64 sus]) (t := 53) (fr := (0, 0)) (by exact heap_alloc_new w8 _)) (by simp [Value.oneCell']) (by decide) (by unfold maxLen; omega) (by omega) (by have := HBS.out; unfold Hid at this; simp; omega) _ rfl ?_; intro g9 cap w9 hown9 hgrow hat hlt9; have HG9 : Hid (w8.grownBy w9 (Value.slice na2 k nc2).ownBlock) := grown_trans (grown_none (by repeat (first | exact grown_alloc (grown_refl _ _) _ | refine grown_drew ?_)) _) hgrow; have HOWN := Lib.hid hown9; have HAT : Hid ((Value.slice na2 k nc2).ownBlock = some g9 ∨ w8.heap.size ≤ g9) := hat.imp id (fun h => by rw [h]; simp); have HR9 := row_kept HG9.out HNW8.out.row (fun e => HNG.out e.symm); have t4 := cell_of HR9 1; have tf := free_of HR9 1; clear hown9 hgrow hat hlt9 HR9)
      all_goals
        have HPU := Lib.hid (HNW8.out.pushN (x := x) (f := .slice ca F cc) (Qn := fun b => w6.heap.size ≤ b ∧ b < w7.heap.size) (by rw [← HXE.out]; exact HOWN.out) HG9.out HAT.out (by rw [← HXE.out]; exact HCL8.out) (fun b hb => by
          have hz := HSZ.out
          unfold Hid at hz
          have hgb := lt_of HNW.out.row
          have hgB := HNW.out.gbB
          refine ⟨by omega, by omega, by omega, fun e => ?_, fun e => ?_, fun i e => ?_⟩
          · have := (own_base HNW.out.nown e).2
            omega
          · have := (own_base HNW.out.vown e).2
            omega
          · have := (HNW.out.a i b e).2.1
            omega))
        have hf89 : Fr (fun b => (Value.slice na2 k nc2).ownBlock = some b) w8 w9 := .of HG9.out (fun i e => e)
        have hf9 : Fr (fun b => b = gb) w9 (w9.setCell ⟨gb, 1, none⟩ (.slice (some ⟨g9, 0, none⟩) (k + 1) cap)) := fr_set (X := fun b => b = gb) (p := ⟨gb, 1, none⟩) (Fr.refl _ _) (.inl rfl) _
        have hz := HSZ.out
        unfold Hid at hz
        have hgbl := lt_of HNW.out.row
        have hsa := HSA.out
        unfold Hid at hsa
        have hgba := HGBA.out
        unfold Hid at hgba
        have HGU : Hid (wa.grownBy (w9.setCell ⟨gb, 1, none⟩ (.slice (some ⟨g9, 0, none⟩) (k + 1) cap)) none) :=
          grown_set (p := ⟨gb, 1, none⟩) (grown_own (grown_trans HGR.out HG68.out) HNW8.out.nown (by omega) HG9.out) (.inr hgba) _
        have HNU : Hid (NodeR (w9.setCell ⟨gb, 1, none⟩ (.slice (some ⟨g9, 0, none⟩) (k + 1) cap)) (fun b => w5.heap.size ≤ b ∧ b < w6.heap.size) (.iface T u) (GMod.start x)) :=
          (HN8.out.fr hf89 (fun b hb e => by
            have h1 := (own_base HNW.out.nown e).2
            omega)).fr hf9 (fun b hb e => by omega)
        have HSU : Hid (w8.heap.size ≤ (w9.setCell ⟨gb, 1, none⟩ (.slice (some ⟨g9, 0, none⟩) (k + 1) cap)).heap.size) := Nat.le_trans hf89.size hf9.size
        have HON : Hid (∀ b, (Value.slice (some ⟨g9, 0, none⟩) (k + 1) cap).ownBlock = some b → b < dB ∨ w8.heap.size ≤ b) := fun b hb => by
          have hb2 : g9 = b := by injection hb
          rw [← hb2]
          rcases HAT.out with e | e
          · have h1 := (own_base HNW.out.nown e).2
            left
            omega
          · exact .inr e
        clear hf89 hf9 hz hgbl hsa hgba
        go_wp2_with fail
        go_meet
        exact ⟨_, _, HPU.out, HGU.out, HNU.out, HSU.out, HON.out⟩
    obtain ⟨na3, nc3, HNWC, HGWC, HNC, HSC, HONC⟩ := hcut
    obtain ⟨wd, hwd⟩ : ∃ wd : World, wd = wc := ⟨_, rfl⟩
    subst hwd
    clear HNW8 HN8 HCL8 HDB8
    have g3 := cell_of HNWC.out.row 3
    obtain ⟨j1, hj1, hy0, hy1, hy2⟩ := info_parts info71
    have HGA2 : Hid (wd.grownBy (wd.alloc (.cells #[.iface T u] 71)) none) := grown_alloc (grown_refl _ _) _
    have HSD : Hid (aB + 1 ≤ wd.heap.size) := by
      have h1 := lt_of HNWC.out.row
      have h2 := HNWC.out.gbB
      unfold Hid
      omega
    have ga3 : ∀ o, (wd.alloc o).cell? ⟨gb, 3, none⟩ = some (.slice va2 k vc2) := fun o => cell_of (row_kept (grown_alloc (grown_refl _ none) _) HNWC.out.row (by simp)) 3
    have HVG : Hid ((Value.slice va2 k vc2).ownBlock ≠ some gb) := HNWC.out.vg
    go_upto_region 13 with (at_builtin; refine wpList_append_own_at _ rfl _ _ 67 rfl (aB + 1) 71 j1 .nilIface 1 16 Try.underlying67 hj1 hy0 hy1 hy2 rfl (by decide) (.slice va2 k vc2) k (flC vC vs) rfl (own_kept HNWC.out.vown HGA2.out) ⟨wd.heap.size, 0, none⟩ 1 1 [.iface T u] rfl rfl (fun j u' hu => by rw [show ((⟨wd.heap.size, 0, none⟩ : Addr).add j) = ⟨wd.heap.size, 0 + j, none⟩ from Addr.add_lit _ _ _, Nat.zero_add, cell_of (heap_alloc_new _ _), ← Array.getElem?_toList]; exact hu) (by simp [Value.oneCell']) (by unfold maxLen; omega) (by omega) (by have := HSD.out; unfold Hid at this; have h2 := HGA2.out.size; omega) ?_; intro v11 w11 ho11 hg11 _ hb11; obtain ⟨oa3, oc3, rfl⟩ := own_slice ho11; have HO11 := Lib.hid ho11; have HG11 := Lib.hid hg11; have HB11 := Lib.hid hb11; have hr11 := row_kept hg11 (row_kept HGA2.out HNWC.out.row (by simp)) (fun e => HVG.out e.symm); have t3 := cell_of hr11 3; have tf3 := free_of hr11 3; clear ho11 hg11 hb11 hr11)
    obtain ⟨g9, cur9, rfl, _⟩ := own_row HO11.out (by omega)
    have HZ := HSZ.out
    unfold Hid at HZ
    have hgbl := lt_of HNW.out.row
    have hsa := HSA.out
    unfold Hid at hsa
    have hgba := HGBA.out
    unfold Hid at hgba
    have hsc := HSC.out
    unfold Hid at hsc
    have hga2s := HGA2.out.size
    have HNWV : Hid (NwS (aB + 1) (w11.setCell ⟨gb, 3, none⟩ (.slice (some ⟨g9, 0, none⟩) (k + 1) oc3)) gb g (.slice oa2 M oc2) (k + 1) (k + 1) c na3 nc3 (some ⟨g9, 0, none⟩) oc3 (ps ++ [(x, .slice ca F cc)]) (vs ++ [.iface T u]) (fun b => Q b ∨ (w6.heap.size ≤ b ∧ b < w7.heap.size)) (fun i b => A i b ∨ (i = k ∧ (w5.heap.size ≤ b ∧ b < w6.heap.size)))) :=
      (HNWC.out.grown HGA2.out).pushV HX.out HO11.out HG11.out (HB11.out.imp (fun h => h.symm) (fun h => by
        injection h with h
        subst h
        exact Nat.le_refl _)) (HNC.out.fr (X := fun _ => False) (.none HGA2.out) (fun _ _ => id)) (fun b hb => by
          refine ⟨by omega, by omega, by omega, fun e => ?_, fun e => ?_, fun e => ?_, fun i e => ?_⟩
          · rcases HONC.out b e with h | h <;> omega
          · have h1 := (own_base HNW.out.vown e).2
            omega
          · rcases e with e | e
            · have h1 := (HNW.out.q b e).2.1
              omega
            · omega
          · have h1 := (HNW.out.a i b e).2.1
            omega)
    have hf11 : Fr (fun b => b = gb) w11 (w11.setCell ⟨gb, 3, none⟩ (.slice (some ⟨g9, 0, none⟩) (k + 1) oc3)) := fr_set (X := fun b => b = gb) (p := ⟨gb, 3, none⟩) (Fr.refl _ _) (.inl rfl) _
    have hfv : Fr (fun b => (Value.slice va2 k vc2).ownBlock = some b) wd w11 := (Fr.none HGA2.out).trans (.of HG11.out (fun i e => e))
    have HNV : Hid (NodeR (w11.setCell ⟨gb, 3, none⟩ (.slice (some ⟨g9, 0, none⟩) (k + 1) oc3)) (fun b => w5.heap.size ≤ b ∧ b < w6.heap.size) (.iface T u) (GMod.start x)) :=
      (HNC.out.fr hfv (fun b hb e => by
        have h1 := (own_base HNW.out.vown e).2
        omega)).fr hf11 (fun b hb e => by omega)
    have HGV : Hid (wa.grownBy (w11.setCell ⟨gb, 3, none⟩ (.slice (some ⟨g9, 0, none⟩) (k + 1) oc3)) none) :=
      grown_set (p := ⟨gb, 3, none⟩) (grown_own (grown_trans HGWC.out HGA2.out) (own_kept HNWC.out.vown HGA2.out) (by omega) HG11.out) (.inr hgba) _
    obtain ⟨we, hwe⟩ : ∃ we, w11.setCell ⟨gb, 3, none⟩ (.slice (some ⟨g9, 0, none⟩) (k + 1) oc3) = we := ⟨_, rfl⟩
    rw [hwe] at HNWV HNV HGV
    simp only [hwe]
    clear HZ hgbl hsa hgba hsc hga2s hf11 hfv hwe HB11 HG11 HO11 HNWC HGWC HNC HSC HONC g3 ga3 HGA2 t3 tf3
    have hgn : gb < we.heap.size := lt_of HNWV.out.row
    have hta := HTA.out
    obtain ⟨dl, hdl⟩ : ∃ dl, isDel (GMod.start x) = dl := ⟨_, rfl⟩
    have HDL := Lib.hid hdl
    rw [hdl] at hta
    cases dl with
    | false =>
      have HLN := Lib.hid (HLS.out.next (ps := ps) HX.out HE.out (f := .slice ca F cc) (HMK.out) (c2 := c) (by rw [if_neg (by
        have h := HDL.out
        rw [start_del] at h
        simpa using h)]))
      clear hdl
      go_wp2_with fail
      refine ⟨?_, by simp [intOf]; omega⟩
      first
        | exact ⟨k + 1, c, _, _, _, _, _, _, _, _, by omega, rfl, HNWV.out, HGV.out, HLN.out⟩
        | (repeat apply Exists.intro
           refine ⟨?_, rfl⟩
           exact ⟨k + 1, c, _, _, _, _, _, _, _, _, by omega, rfl, HNWV.out, HGV.out, HLN.out⟩)
    | true =>
      have hk6 : x.kind = 6 := by
        rw [start_del] at hdl
        simpa using hdl
      have hst6 : GMod.start x = .del (List.replicate x.n.toNat 0) 0 := by unfold GMod.start; simp [hk6]
      have hnr := HNV.out
      rw [hst6] at hnr
      obtain ⟨db, rb2, ys, he, _, _, _, hdr, _, hyl, _, _⟩ := delay_of hnr
      simp only [Value.iface.injEq] at he
      obtain ⟨rfl, rfl⟩ := he
      rw [List.length_replicate] at hyl
      have hlm := long98 ⟨db, 0, none⟩
      have hn1 := made6 HE.out hk6
      obtain ⟨nn, hnn⟩ : ∃ nn, x.n.toNat = nn := ⟨_, rfl⟩
      have hn2 : 1 ≤ nn ∧ nn ≤ 4096 := by omega
      have LC : Hid (∀ w', we.grownBy w' none → Calls Try.prog 68 #[.pointer (some ⟨db, 0, none⟩)] w' fun e w'' => e = .returned (.int .i64 (nn : Int)) ∧ w'' = w') := fun w' hg => by
        have h := long_calls db rb2 ys 0 w' ⟨row_kept hg hdr.1 (by simp), row_kept hg hdr.2 (by simp)⟩
        rw [hyl, hnn] at h
        exact h
      have HLN := Lib.hid (HLS.out.next (ps := ps) HX.out HE.out (f := .slice ca F cc) (HMK.out) (c2 := min c nn) (by rw [if_pos hk6, hnn]))
      have HNWM := Lib.hid (HNWV.out.setC (min c nn))
      have hmin : (if nn < c then (nn : Int) else (c : Int)) = ((min c nn : Nat) : Int) := by split <;> omega
      have HMIN := Lib.hid hmin
      have hg5 := cell_of HNWV.out.row 5
      have hg5f := free_of HNWV.out.row 5
      clear hmin hnr hst6 hdl hdr hyl hn1 hnn hk6
      go_upto_region 15 with fail
      go_region_with (go_at_call 68; refine (LC.out _ ?_).mono ?_; (first | exact grown_drew (grown_refl _ _) | exact grown_refl _ _); rintro ez wq ⟨rfl, rfl⟩)
      all_goals
        have hgba := HGBA.out
        unfold Hid at hgba
        have HNWF := Lib.hid (HNWM.out.grown (grown_drew (grown_refl _ none)))
        have HGF : Hid (wa.grownBy (we.setCell ⟨gb, 5, none⟩ (.int .i64 ((min c nn : Nat) : Int))).drew none) := grown_drew (grown_set (p := ⟨gb, 5, none⟩) HGV.out (.inr hgba) _)
        rw [← HMIN.out] at HNWF HGF
        clear hgba HMIN
        go_wp2_with fail
        refine ⟨?_, by simp [intOf]; omega⟩
        first
          | exact ⟨k + 1, min c nn, _, _, _, _, _, _, _, _, by omega, rfl, HNWF.out, HGF.out, HLN.out⟩
          | (repeat apply Exists.intro
             refine ⟨?_, rfl⟩
             exact ⟨k + 1, min c nn, _, _, _, _, _, _, _, _, by omega, rfl, HNWF.out, HGF.out, HLN.out⟩)
end Go.Proofs.Ytdliilmnfbgplaa.GNew
