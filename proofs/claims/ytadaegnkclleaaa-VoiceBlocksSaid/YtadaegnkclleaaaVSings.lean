/- VoiceSings: it returns true. -/
import Derived.Test.YtadaegnkclleaaaVRSing
import Derived.Deep.QuietTactic
import Derived.BigQuiet
namespace Go.Proofs.Ytadaegnkclleaaa.VSings
open Go Ieee Go.RowKit Go.Proofs.Ytadaegnkclleaaa.VShapes Go.Proofs.Ytadaegnkclleaaa.VMod Go.Proofs.Ytadaegnkclleaaa.VWalk Go.Proofs.Ytadaegnkclleaaa.VSing Go.Proofs.Ytadaegnkclleaaa.VRSing Go.Proofs.Ytadaegnkclleaaa.Hp Go.Proofs.Ytadaegnkclleaaa.Rd
set_option linter.unusedVariables false

theorem same_calls2 (x : Nat) (w : World) : Calls Try.prog 8 #[.float .f64 x, .float .f64 x] w fun e w' => e = .returned (.bool true) ∧ w' = w := (same_calls x w).mono fun _ _ h => ⟨h.1, h.2.symm⟩

theorem sl_cap {α : Type} {R : World → Value → α → Prop} {w : World} {v : Value} {xs : List α} (h : Sl R w v xs) : ∃ ao cap, v = .slice ao xs.length cap := by
  rcases h with ⟨b, off, cap, rfl, _⟩ | ⟨ao, cap, rfl, rfl⟩
  · exact ⟨_, _, rfl⟩
  · exact ⟨_, _, rfl⟩

theorem sl_at {α : Type} {R : World → Value → α → Prop} {w : World} {ao : Option Addr} {n cap : Nat} {xs : List α} (h : Sl R w (.slice ao n cap) xs) {k : Nat} {x : α} (hk : xs[k]? = some x) : ∃ b off u, ao = some ⟨b, off, none⟩ ∧ w.cell? ⟨b, off + k, none⟩ = some u ∧ R w u x := by
  rcases h with ⟨b, off, cap', hh, hel⟩ | ⟨_, _, _, hnil⟩
  · simp only [Value.slice.injEq] at hh
    obtain ⟨u, h1, h2⟩ := hel k x hk
    exact ⟨b, off, u, hh.1, h1, h2⟩
  · subst hnil; simp at hk

set_option maxHeartbeats 1000000 in
set_option maxRecDepth 100000 in
theorem sameall_calls (a b : Value) (xs : List Nat) (w : World) (ha : Fls w a xs) (hb : Fls w b xs) (hmax : xs.length ≤ 4611686018427387904) :
    Calls Try.prog 18 #[a, b] w fun e w' => e = .returned (.bool true) ∧ ∃ m, w' = w.drewN m := by
  obtain ⟨a1, c1, rfl⟩ := sl_cap ha
  obtain ⟨a2, c2, rfl⟩ := sl_cap hb
  obtain ⟨n, hn⟩ : ∃ n, xs.length = n := ⟨_, rfl⟩
  have HN := Lib.hid hn
  rw [hn] at ha hb hmax ⊢
  have HA := Lib.hid ha
  have HB := Lib.hid hb
  clear hn ha hb
  go_enter Try.func18, Try.ntmps18
  go_wp2_with fail
  go_loopw [13] (fun i wr => ∃ k : Nat, k ≤ n ∧ i = .int .i64 k ∧ Hid (∃ m, wr = w.drewN m)) (fun i _ => n - (intOf i).toNat)
  case atStart => exact ⟨0, Nat.zero_le _, rfl, 0, rfl⟩
  case round =>
    obtain ⟨k, hk, rfl, HD⟩ := hrel
    have HAr : Hid (Fls wr (.slice a1 n c1) xs) := by obtain ⟨m, rfl⟩ := HD.out; exact HA.out
    have HBr : Hid (Fls wr (.slice a2 n c2) xs) := by obtain ⟨m, rfl⟩ := HD.out; exact HB.out
    by_cases hlt : k < n
    · obtain ⟨x, hxk⟩ : ∃ x, xs[k]? = some x := ⟨xs[k]'(by rw [HN.out]; exact hlt), List.getElem?_eq_getElem _⟩
      obtain ⟨b1, o1, u, rfl, hc, rfl⟩ := sl_at HAr.out hxk
      obtain ⟨b2, o2, u, rfl, hd, rfl⟩ := sl_at HBr.out hxk
      clear hxk
      go_wp2_with fail
      go_quiet ((go_at_call 8; exact Calls.quiet_of_same (same_calls2 _ _)))
      go_wp2_with fail
      go_roundw
      case rel => exact ⟨k + 1, by omega, by go_num, by obtain ⟨m, rfl⟩ := HD.out; exact ⟨_, World.drewN_drewN _ _ _⟩⟩
      case measure => simp [intOf]; omega
    · obtain rfl : k = n := by omega
      go_wp2_with fail
      go_ret
      exact ⟨rfl, HD.out⟩

theorem outsP_le (p : Pt) (s : St) (ns : List Int) : ∀ y ∈ outsP p s ns, y.length ≤ 65536 := by
  induction ns generalizing s with
  | nil => intro y h; cases h
  | cons n ns ih =>
    intro y h
    rcases List.mem_cons.1 h with rfl | h
    · unfold outP
      split
      · rename_i hg
        unfold goodN at hg
        simp only [Bool.and_eq_true, decide_eq_true_eq] at hg
        rw [play_len]
        omega
      · simp
    · exact ih _ y h

set_option maxHeartbeats 2000000 in
set_option maxRecDepth 100000 in
theorem law (p : Pt) (v : Value) (ns : List Int) (w : World) (hst : p.step < 4294967296) (hv : Ils w v ns) (hr : ∀ n ∈ ns, -9223372036854775808 ≤ n ∧ n ≤ 9223372036854775807) (hl : ns.length ≤ 5864062014804) :
    Calls Try.prog 6 #[.agg #[.int .i64 p.shape, .int .u32 p.step, .float .f64 p.gain, .int .i64 p.att, .int .i64 p.dec, .int .i64 p.rel, .int .i64 p.sus], v] w fun e w' => e = .returned (.bool true) ∧ Hid (w.grownBy w' none) := by
  have A1 := Lib.hid (fun w1 (hg : w.grownBy w1 none) => sing_calls p v ns w1 hst (hv.grown hg) hr hl)
  have A2 := Lib.hid (fun w1 (hg : w.grownBy w1 none) => rsing_calls p v ns w1 (hv.grown hg) hr hl)
  obtain ⟨ys, hys⟩ : ∃ ys, outsP p st0 ns = ys := ⟨_, rfl⟩
  obtain ⟨es, hes⟩ : ∃ es, ns.map errP = es := ⟨_, rfl⟩
  have HLY : Hid (ys.length = ns.length) := by
    unfold Hid
    rw [← hys]
    generalize st0 = s
    clear hys hes hl hr hv A1 A2
    induction ns generalizing s with
    | nil => rfl
    | cons n ns ih => simp [outsP, ih]
  have HYL : Hid (∀ y ∈ ys, y.length ≤ 65536) := by unfold Hid; rw [← hys]; exact outsP_le p st0 ns
  have HLE : Hid (es.length = ns.length) := by unfold Hid; rw [← hes, List.length_map]
  obtain ⟨r, hrr⟩ : ∃ r, wrongP p = r := ⟨_, rfl⟩
  have HBOX : Hid (∀ w1, w.grownBy w1 none → True) := fun _ _ => trivial
  obtain ⟨w1, hw1⟩ : ∃ w1, w.alloc (.cells #[.int .i64 p.shape, .int .u32 p.step, .float .f64 p.gain, .int .i64 p.att, .int .i64 p.dec, .int .i64 p.rel, .int .i64 p.sus] 33) = w1 := ⟨_, rfl⟩
  have HG1 : Hid (w.grownBy w1 none) := by rw [← hw1]; exact grown_alloc (grown_refl _ _) _
  have hrow : w1.heap[w.heap.size]? = some (.cells #[.int .i64 p.shape, .int .u32 p.step, .float .f64 p.gain, .int .i64 p.att, .int .i64 p.dec, .int .i64 p.rel, .int .i64 p.sus] 33 (0, 0)) := by rw [← hw1]; exact heap_alloc_new _ _
  obtain ⟨g, hg⟩ : ∃ g, w.heap.size = g := ⟨_, rfl⟩
  rw [hg] at hrow
  have HROW := Lib.hid hrow
  have HW1 := Lib.hid hw1
  have hgw := hg
  clear hrow
  by_cases hr0 : r = 0
  · have B1 : Hid (Calls Try.prog 16 #[.agg #[.int .i64 p.shape, .int .u32 p.step, .float .f64 p.gain, .int .i64 p.att, .int .i64 p.dec, .int .i64 p.rel, .int .i64 p.sus], v] w1 fun e w' => ∃ ao co ae ce, e = .returned (.tuple #[.slice ao ns.length co, .slice ae ns.length ce, .int .i64 0]) ∧ Hid (Sl PieceR w' (.slice ao ns.length co) ys) ∧ Hid (Ils w' (.slice ae ns.length ce) es) ∧ Hid (w1.grownBy w' none)) := by
      refine (A1.out w1 HG1.out).mono fun e w' h => ?_
      obtain ⟨hgr, ⟨h1, _⟩ | ⟨_, vo, ve, rfl, h2, h3⟩⟩ := h
      · exact absurd (hrr.trans hr0) h1
      · rw [hys] at h2
        rw [hes] at h3
        obtain ⟨ao, co, rfl⟩ := sl_cap h2.out
        obtain ⟨ae, ce, rfl⟩ := sl_cap h3.out
        rw [HLY.out] at h2
        rw [HLE.out] at h3
        exact ⟨ao, co, ae, ce, by rw [HLY.out, HLE.out], h2, h3, hgr⟩
    have B2 : Hid (∀ w2, w.grownBy w2 none → Calls Try.prog 17 #[.agg #[.int .i64 p.shape, .int .u32 p.step, .float .f64 p.gain, .int .i64 p.att, .int .i64 p.dec, .int .i64 p.rel, .int .i64 p.sus], v] w2 fun e w' => ∃ ao co ae ce, e = .returned (.tuple #[.slice ao ns.length co, .slice ae ns.length ce, .int .i64 0]) ∧ Hid (Sl RR w' (.slice ao ns.length co) ys) ∧ Hid (Ils w' (.slice ae ns.length ce) es) ∧ Hid (w2.grownBy w' none)) := by
      intro w2 hg2
      refine (A2.out w2 hg2).mono fun e w' h => ?_
      obtain ⟨hgr, ⟨h1, _⟩ | ⟨_, vo, ve, rfl, h2, h3⟩⟩ := h
      · exact absurd (hrr.trans hr0) h1
      · rw [hys] at h2
        rw [hes] at h3
        obtain ⟨ao, co, rfl⟩ := sl_cap h2.out
        obtain ⟨ae, ce, rfl⟩ := sl_cap h3.out
        rw [HLY.out] at h2
        rw [HLE.out] at h3
        exact ⟨ao, co, ae, ce, by rw [HLY.out, HLE.out], h2, h3, hgr⟩
    obtain ⟨n, hn⟩ : ∃ n, ns.length = n := ⟨_, rfl⟩
    rw [hn] at B1 B2 HLY HLE hl
    have ha := sl_cap hv
    obtain ⟨av, cv, hav⟩ := ha
    clear hys hes hrr hn A1 A2 hv hr HBOX
    go_enter Try.func6, Try.ntmps6
    go_upto_region 1 with fail
    clear hg hw1 hgw hav
    have c0 : w1.cell? ⟨g, 0, none⟩ = some (.int .i64 p.shape) := cell_of HROW.out 0
    have c1 : w1.cell? ⟨g, 1, none⟩ = some (.int .u32 p.step) := cell_of HROW.out 1
    have c2 : w1.cell? ⟨g, 2, none⟩ = some (.float .f64 p.gain) := cell_of HROW.out 2
    have c3 : w1.cell? ⟨g, 3, none⟩ = some (.int .i64 p.att) := cell_of HROW.out 3
    have c4 : w1.cell? ⟨g, 4, none⟩ = some (.int .i64 p.dec) := cell_of HROW.out 4
    have c5 : w1.cell? ⟨g, 5, none⟩ = some (.int .i64 p.rel) := cell_of HROW.out 5
    have c6 : w1.cell? ⟨g, 6, none⟩ = some (.int .i64 p.sus) := cell_of HROW.out 6
    go_upto_region 2 with (go_at_call 16; refine (B1.out).mono ?_; rintro e w2 ⟨a1, k1, e1, j1, rfl, HY1, HE1, hg2⟩)
    have HG2 := Lib.hid (grown_trans HG1.out hg2.out)
    have HROW2 : Hid (w2.heap[g]? = some (.cells #[.int .i64 p.shape, .int .u32 p.step, .float .f64 p.gain, .int .i64 p.att, .int .i64 p.dec, .int .i64 p.rel, .int .i64 p.sus] 33 (0, 0))) := (Gr.of_none (B := w1.heap.size) (S := []) hg2.out).keep HROW.out (by simp)
    clear hg2 c0 c1 c2 c3 c4 c5 c6
    have c0 : w2.cell? ⟨g, 0, none⟩ = some (.int .i64 p.shape) := cell_of HROW2.out 0
    have c1 : w2.cell? ⟨g, 1, none⟩ = some (.int .u32 p.step) := cell_of HROW2.out 1
    have c2 : w2.cell? ⟨g, 2, none⟩ = some (.float .f64 p.gain) := cell_of HROW2.out 2
    have c3 : w2.cell? ⟨g, 3, none⟩ = some (.int .i64 p.att) := cell_of HROW2.out 3
    have c4 : w2.cell? ⟨g, 4, none⟩ = some (.int .i64 p.dec) := cell_of HROW2.out 4
    have c5 : w2.cell? ⟨g, 5, none⟩ = some (.int .i64 p.rel) := cell_of HROW2.out 5
    have c6 : w2.cell? ⟨g, 6, none⟩ = some (.int .i64 p.sus) := cell_of HROW2.out 6
    go_wp2_with (go_at_call 17; refine (B2.out _ HG2.out).mono ?_; rintro e w3 ⟨a2, k2, e2, j2, rfl, HY2, HE2, hg3⟩; have HG3 := Lib.hid (grown_trans HG2.out hg3.out); have HY1b : Hid (Sl PieceR w3 (.slice a1 n k1) ys) := Sl.grown HY1.out hg3.out (fun u x h => PieceR.gr h (Gr.of_none (B := 0) (S := []) hg3.out) (by simp)); have HE1b : Hid (Ils w3 (.slice e1 n j1) es) := Ils.grown HE1.out hg3.out; clear hg3 c0 c1 c2 c3 c4 c5 c6 HY1 HE1)
    clear HROW HROW2 B1 B2 HW1
    go_loopw [45] (fun i wr => ∃ k : Nat, k ≤ n ∧ i = .int .i64 k ∧ Hid (∃ m, wr = w3.drewN m)) (fun i _ => n - (intOf i).toNat)
    case atStart => exact ⟨0, Nat.zero_le _, rfl, 0, rfl⟩
    case round =>
      obtain ⟨k, hk, rfl, HD⟩ := hrel
      by_cases hlt : k < n
      · obtain ⟨y, hyk⟩ : ∃ y, ys[k]? = some y := ⟨ys[k]'(by rw [HLY.out]; exact hlt), List.getElem?_eq_getElem _⟩
        obtain ⟨z, hzk⟩ : ∃ z, es[k]? = some z := ⟨es[k]'(by rw [HLE.out]; exact hlt), List.getElem?_eq_getElem _⟩
        obtain ⟨b1, o1, u1, rfl, ca, ra⟩ := sl_at HY1b.out hyk
        obtain ⟨b2, o2, u2, rfl, cb, rb⟩ := sl_at HY2.out hyk
        obtain ⟨b3, o3, u, rfl, cc, rfl⟩ := sl_at HE1b.out hzk
        obtain ⟨b4, o4, u, rfl, cd, rfl⟩ := sl_at HE2.out hzk
        have ha' := ra.fls
        have hb' := rb.fls
        obtain ⟨d1, l1, rfl⟩ := sl_cap ha'
        obtain ⟨d2, l2, rfl⟩ := sl_cap hb'
        have hy47 : y.length ≤ 4611686018427387904 := by
          have := HYL.out y (List.mem_of_getElem? hyk)
          omega
        have SA : Hid (∀ nq, Calls Try.prog 18 #[.slice d1 y.length l1, .slice d2 y.length l2] (wr.drewN nq) fun e w' => e = .returned (.bool true) ∧ ∃ m, w' = (wr.drewN nq).drewN m) := by
          intro nq
          refine sameall_calls _ _ y _ ?_ ?_ hy47
          · obtain ⟨m, rfl⟩ := HD.out; exact ha'
          · obtain ⟨m, rfl⟩ := HD.out; exact hb'
        obtain ⟨ny, hny⟩ : ∃ ny, y.length = ny := ⟨_, rfl⟩
        rw [hny] at SA ca cb
        have ca' : wr.cell? ⟨b1, o1 + k, none⟩ = some (.slice d1 ny l1) := by obtain ⟨m, rfl⟩ := HD.out; exact ca
        have cb' : wr.cell? ⟨b2, o2 + k, none⟩ = some (.slice d2 ny l2) := by obtain ⟨m, rfl⟩ := HD.out; exact cb
        have cc' : wr.cell? ⟨b3, o3 + k, none⟩ = some (.int .i64 z) := by obtain ⟨m, rfl⟩ := HD.out; exact cc
        have cd' : wr.cell? ⟨b4, o4 + k, none⟩ = some (.int .i64 z) := by obtain ⟨m, rfl⟩ := HD.out; exact cd
        clear hyk hzk ca cb cc cd ra rb ha' hb' hy47 hny
        go_wp2_with fail
        go_quiet ((go_at_call 18; exact Calls.quiet_of (SA.out _)))
        go_wp2_with fail
        go_roundw
        case rel => exact ⟨k + 1, by omega, by go_num, by obtain ⟨m, rfl⟩ := HD.out; exact ⟨_, World.drewN_drewN _ _ _⟩⟩
        case measure => simp [intOf]; omega
      · obtain rfl : k = n := by omega
        go_wp2_with fail
        go_ret
        exact ⟨rfl, by obtain ⟨m, rfl⟩ := HD.out; exact grown_drewN HG3.out _⟩
  · have B1 : Hid (Calls Try.prog 16 #[.agg #[.int .i64 p.shape, .int .u32 p.step, .float .f64 p.gain, .int .i64 p.att, .int .i64 p.dec, .int .i64 p.rel, .int .i64 p.sus], v] w1 fun e w' => e = .returned (.tuple #[.slice none 0 0, .slice none 0 0, .int .i64 r]) ∧ Hid (w1.grownBy w' none)) := by
      refine (A1.out w1 HG1.out).mono fun e w' h => ?_
      obtain ⟨hgr, ⟨_, he⟩ | ⟨h1, _⟩⟩ := h
      · rw [hrr] at he; exact ⟨he, hgr⟩
      · exact absurd (hrr.symm.trans h1) hr0
    have B2 : Hid (∀ w2, w.grownBy w2 none → Calls Try.prog 17 #[.agg #[.int .i64 p.shape, .int .u32 p.step, .float .f64 p.gain, .int .i64 p.att, .int .i64 p.dec, .int .i64 p.rel, .int .i64 p.sus], v] w2 fun e w' => e = .returned (.tuple #[.slice none 0 0, .slice none 0 0, .int .i64 r]) ∧ Hid (w2.grownBy w' none)) := by
      intro w2 hg2
      refine (A2.out w2 hg2).mono fun e w' h => ?_
      obtain ⟨hgr, ⟨_, he⟩ | ⟨h1, _⟩⟩ := h
      · rw [hrr] at he; exact ⟨he, hgr⟩
      · exact absurd (hrr.symm.trans h1) hr0
    clear hys hes hrr A1 A2 hv hr HBOX
    go_enter Try.func6, Try.ntmps6
    go_upto_region 1 with fail
    clear hg hw1 hgw
    have c0 : w1.cell? ⟨g, 0, none⟩ = some (.int .i64 p.shape) := cell_of HROW.out 0
    have c1 : w1.cell? ⟨g, 1, none⟩ = some (.int .u32 p.step) := cell_of HROW.out 1
    have c2 : w1.cell? ⟨g, 2, none⟩ = some (.float .f64 p.gain) := cell_of HROW.out 2
    have c3 : w1.cell? ⟨g, 3, none⟩ = some (.int .i64 p.att) := cell_of HROW.out 3
    have c4 : w1.cell? ⟨g, 4, none⟩ = some (.int .i64 p.dec) := cell_of HROW.out 4
    have c5 : w1.cell? ⟨g, 5, none⟩ = some (.int .i64 p.rel) := cell_of HROW.out 5
    have c6 : w1.cell? ⟨g, 6, none⟩ = some (.int .i64 p.sus) := cell_of HROW.out 6
    go_upto_region 2 with (go_at_call 16; refine (B1.out).mono ?_; rintro e w2 ⟨rfl, hg2⟩)
    have HG2 := Lib.hid (grown_trans HG1.out hg2.out)
    have HROW2 : Hid (w2.heap[g]? = some (.cells #[.int .i64 p.shape, .int .u32 p.step, .float .f64 p.gain, .int .i64 p.att, .int .i64 p.dec, .int .i64 p.rel, .int .i64 p.sus] 33 (0, 0))) := (Gr.of_none (B := w1.heap.size) (S := []) hg2.out).keep HROW.out (by simp)
    clear hg2 c0 c1 c2 c3 c4 c5 c6
    have c0 : w2.cell? ⟨g, 0, none⟩ = some (.int .i64 p.shape) := cell_of HROW2.out 0
    have c1 : w2.cell? ⟨g, 1, none⟩ = some (.int .u32 p.step) := cell_of HROW2.out 1
    have c2 : w2.cell? ⟨g, 2, none⟩ = some (.float .f64 p.gain) := cell_of HROW2.out 2
    have c3 : w2.cell? ⟨g, 3, none⟩ = some (.int .i64 p.att) := cell_of HROW2.out 3
    have c4 : w2.cell? ⟨g, 4, none⟩ = some (.int .i64 p.dec) := cell_of HROW2.out 4
    have c5 : w2.cell? ⟨g, 5, none⟩ = some (.int .i64 p.rel) := cell_of HROW2.out 5
    have c6 : w2.cell? ⟨g, 6, none⟩ = some (.int .i64 p.sus) := cell_of HROW2.out 6
    go_wp2_with (go_at_call 17; refine (B2.out _ HG2.out).mono ?_; rintro e w3 ⟨rfl, hg3⟩; have HG3 := Lib.hid (grown_trans HG2.out hg3.out); clear hg3 c0 c1 c2 c3 c4 c5 c6)
    clear HROW HROW2 B1 B2 HW1
    go_loopw [45] (fun i wr => i = .int .i64 0 ∧ wr = w3) (fun i _ => 0)
    case atStart => exact ⟨rfl, rfl⟩
    case round =>
      obtain ⟨rfl, rfl⟩ := hrel
      go_wp2_with fail
      go_ret
      exact ⟨rfl, HG3.out⟩

end Go.Proofs.Ytadaegnkclleaaa.VSings
