/- VoiceBlocks: it returns true. -/
import Derived.Test.YtadaegnkclleaaaVBlk
import Derived.Test.YtadaegnkclleaaaMixed
import Derived.Test.YtadaegnkclleaaaApp
import Derived.IntWalk
namespace Go.Proofs.Ytadaegnkclleaaa.VBlkL
open Go Ieee Go.RowKit Go.Proofs.Ytadaegnkclleaaa.VShapes Go.Proofs.Ytadaegnkclleaaa.VMod Go.Proofs.Ytadaegnkclleaaa.VWalk Go.Proofs.Ytadaegnkclleaaa.VSing Go.Proofs.Ytadaegnkclleaaa.VRSing Go.Proofs.Ytadaegnkclleaaa.VSings Go.Proofs.Ytadaegnkclleaaa.VEndsL Go.Proofs.Ytadaegnkclleaaa.VBlkM Go.Proofs.Ytadaegnkclleaaa.VBlk Go.Proofs.Ytadaegnkclleaaa.App Go.Proofs.Ytadaegnkclleaaa.Hp Go.Proofs.Ytadaegnkclleaaa.Rd
set_option linter.unusedVariables false
set_option linter.unusedSimpArgs false

theorem outs_len (p : Pt) (s : St) (ns : List Int) : (outsP p s ns).length = ns.length := by
  induction ns generalizing s with
  | nil => rfl
  | cons n ns ih => simp [outsP, ih]

theorem two_ils (w : World) (A B : Nat) : Ils (w.drew.alloc (.cells #[.int .i64 (A : Int), .int .i64 (-(B : Int))] 3)) (.slice (some ⟨w.heap.size, 0, none⟩) 2 2) [(A : Int), -(B : Int)] := by
  refine .inl ⟨w.heap.size, 0, 2, rfl, fun i x hx => ⟨.int .i64 x, ?_, rfl⟩⟩
  rw [Nat.zero_add, cell_of (show (w.drew.alloc (.cells #[.int .i64 (A : Int), .int .i64 (-(B : Int))] 3)).heap[w.heap.size]? = _ from heap_alloc_new w.drew _)]
  match i, hx with
  | 0, hx => simp at hx; subst hx; rfl
  | 1, hx => simp at hx; subst hx; rfl
  | i + 2, hx => simp at hx

/-- What the outer loop has done. -/
def Out (w : World) (p : Pt) (v1 v2 : Value) (g : Nat) (hs gs : List Int) (k : Nat) (v : Value) (wr : World) : Prop :=
  ∃ (a b : List Nat), (0 < k → hs = cz a) ∧ (1 < k → gs = cz b) ∧ okN a ∧ okN b ∧ a.length ≤ 60 ∧ b.length ≤ 60 ∧ (k = 0 → a = []) ∧ (k ≤ 1 → b = []) ∧ Env w p v1 v2 g wr a.sum b.sum ∧ wr.ownsRow (g + 3) 3 1 v (a.length + b.length) (vi (cz a ++ gonePieces b))

set_option maxHeartbeats 8000000 in
set_option maxRecDepth 100000 in
theorem law (p : Pt) (a1 a2 : Option Addr) (c1 c2 : Nat) (hs gs : List Int) (w : World) (hst : p.step < 4294967296) (h1 : Ils w (.slice a1 hs.length c1) hs) (h2 : Ils w (.slice a2 gs.length c2) gs) (r1 : ∀ n ∈ hs, -9223372036854775808 ≤ n ∧ n ≤ 9223372036854775807) (r2 : ∀ n ∈ gs, -9223372036854775808 ≤ n ∧ n ≤ 9223372036854775807) :
    Calls Try.prog 7 #[.agg #[.int .i64 p.shape, .int .u32 p.step, .float .f64 p.gain, .int .i64 p.att, .int .i64 p.dec, .int .i64 p.rel, .int .i64 p.sus], .slice a1 hs.length c1, .slice a2 gs.length c2] w fun e w' => e = .returned (.bool true) ∧ Hid (w.grownBy w' none) := by
  obtain ⟨n1, hn1⟩ : ∃ n, hs.length = n := ⟨_, rfl⟩
  obtain ⟨n2, hn2⟩ : ∃ n, gs.length = n := ⟨_, rfl⟩
  have HN1 := Lib.hid hn1
  have HN2 := Lib.hid hn2
  rw [hn1] at h1 ⊢
  rw [hn2] at h2 ⊢
  have HH := Lib.hid h1
  have HGN := Lib.hid h2
  have HR1 := Lib.hid r1
  have HR2 := Lib.hid r2
  clear hn1 hn2 h1 h2 r1 r2
  obtain ⟨g, hg⟩ : ∃ g, w.heap.size = g := ⟨_, rfl⟩
  obtain ⟨w1, hw1⟩ : ∃ w1, ((w.alloc (.cells #[.int .i64 p.shape, .int .u32 p.step, .float .f64 p.gain, .int .i64 p.att, .int .i64 p.dec, .int .i64 p.rel, .int .i64 p.sus] 33)).alloc (.cells #[.int .i64 0, .int .i64 0] 3)).alloc (.cells #[.slice a1 n1 c1, .slice a2 n2 c2] 39) = w1 := ⟨_, rfl⟩
  have HE1 : Hid (Env w p (.slice a1 n1 c1) (.slice a2 n2 c2) g w1 0 0) := by
    have s1 : (w.alloc (.cells #[.int .i64 p.shape, .int .u32 p.step, .float .f64 p.gain, .int .i64 p.att, .int .i64 p.dec, .int .i64 p.rel, .int .i64 p.sus] 33)).heap.size = g + 1 := by simp; exact hg
    have s2 : ((w.alloc (.cells #[.int .i64 p.shape, .int .u32 p.step, .float .f64 p.gain, .int .i64 p.att, .int .i64 p.dec, .int .i64 p.rel, .int .i64 p.sus] 33)).alloc (.cells #[.int .i64 0, .int .i64 0] 3)).heap.size = g + 2 := by simp; exact hg
    refine ⟨?_, ?_, ?_, ?_, ?_, hg⟩
    · rw [← hw1, Below.heap_alloc _ _ _ (by rw [s2]; omega), Below.heap_alloc _ _ _ (by rw [s1]; omega), ← hg]
      exact heap_alloc_new _ _
    · rw [← hw1, Below.heap_alloc _ _ _ (by rw [s2]; omega)]
      have := heap_alloc_new (w.alloc (.cells #[.int .i64 p.shape, .int .u32 p.step, .float .f64 p.gain, .int .i64 p.att, .int .i64 p.dec, .int .i64 p.rel, .int .i64 p.sus] 33)) (.cells #[.int .i64 0, .int .i64 0] 3)
      rw [s1] at this
      exact this
    · rw [← hw1]
      have := heap_alloc_new ((w.alloc (.cells #[.int .i64 p.shape, .int .u32 p.step, .float .f64 p.gain, .int .i64 p.att, .int .i64 p.dec, .int .i64 p.rel, .int .i64 p.sus] 33)).alloc (.cells #[.int .i64 0, .int .i64 0] 3)) (.cells #[.slice a1 n1 c1, .slice a2 n2 c2] 39)
      rw [s2] at this
      exact this
    · rw [← hw1]; exact grown_alloc (grown_alloc (grown_alloc (grown_refl _ _) _) _) _
    · rw [← hw1]; simp; omega
  have HO0 : Hid (Out w p (.slice a1 n1 c1) (.slice a2 n2 c2) g hs gs 0 (.slice none 0 0) w1) := ⟨[], [], (fun h => by omega), (fun h => by omega), (fun n h => by cases h), (fun n h => by cases h), by simp, by simp, (fun _ => rfl), (fun _ => rfl), HE1.out, World.ownsRow_nil _ _ _ _⟩
  clear HE1
  go_enter Try.func7, Try.ntmps7
  go_wp2_with (go_at_call 15; refine (alive_calls _).mono ?_; rintro e w9 ⟨rfl, rfl⟩)
  clear hg hw1
  go_loopw [7, 32] (fun v i wr => ∃ (k : Nat) (z : Int), k ≤ 2 ∧ z = (k : Int) ∧ i = .int .i64 z ∧ Hid (Out w p (.slice a1 n1 c1) (.slice a2 n2 c2) g hs gs k v wr)) (fun _ i _ => 2 - (intOf i).toNat)
  case atStart => exact ⟨0, 0, by omega, rfl, rfl, HO0⟩
  case round =>
    clear HO0
    obtain ⟨k, z, hk, hz, rfl, HOUT⟩ := hrel
    obtain ⟨wo, rfl⟩ : ∃ wo, wo = wr := ⟨_, rfl⟩
    have hcase : k = 0 ∨ k = 1 ∨ k = 2 := by omega
    rcases hcase with rfl | rfl | rfl
    · obtain rfl : z = 0 := by omega
      clear hz
      obtain ⟨a, b, _, _, _, _, _, _, ha, hb, henv, hown⟩ := HOUT.out
      obtain rfl := ha rfl
      obtain rfl := hb (by omega)
      have HENV : Hid (Env w p (.slice a1 n1 c1) (.slice a2 n2 c2) g wo ([] : List Nat).sum 0) := henv
      have HOWN : Hid (wo.ownsRow (g + 3) 3 1 u7 ([] : List Nat).length (vi (cz []))) := hown
      clear HOUT henv hown ha hb
      have q1 : wo.cell? ⟨g + 2, 0, none⟩ = some (.slice a1 n1 c1) := cell_of HENV.out.lists 0
      go_wp2_with fail
      go_loopw [7, 39] (fun v i wr => ∃ (i0 : Nat) (ms : List Nat), i0 ≤ n1 ∧ i = .int .i64 (i0 : Int) ∧ Hid (Pre hs i0 ms) ∧ Hid (Env w p (.slice a1 n1 c1) (.slice a2 n2 c2) g wr ms.sum 0) ∧ Hid (wr.ownsRow (g + 3) 3 1 v ms.length (vi (cz ms)))) (fun _ i _ => n1 - (intOf i).toNat)
      case atStart => exact ⟨0, [], Nat.zero_le _, rfl, pre_start _, HENV, HOWN⟩
      case round =>
        clear HENV HOWN q1
        obtain ⟨i0, ms, hi0, rfl, HPRE, HENV, HOWN⟩ := hrel
        by_cases hlt : i0 < n1
        · obtain ⟨x, hx⟩ : ∃ x, hs[i0]? = some x := ⟨hs[i0]'(by rw [HN1.out]; exact hlt), List.getElem?_eq_getElem _⟩
          obtain ⟨x0, x1⟩ := HR1.out x (List.mem_of_getElem? hx)
          obtain ⟨b1, o1, u, hao, hc, rfl⟩ := sl_at HH.out hx
          have HAO := Lib.hid hao
          have hcell : wr.cell? ⟨b1, o1 + i0, none⟩ = some (.int .i64 x) := HENV.out.grown.cell hc (by simp)
          have HX := Lib.hid hx
          clear hx hc
          subst hao
          by_cases hx1 : x < 1
          · go_wp2_with fail
            go_ret
            exact ⟨rfl, HENV.out.grown⟩
          by_cases hx2 : 1000 < x
          · go_wp2_with fail
            go_ret
            exact ⟨rfl, HENV.out.grown⟩
          by_cases hx3 : 60 < n1
          · go_wp2_with fail
            go_ret
            exact ⟨rfl, HENV.out.grown⟩
          obtain ⟨m, rfl⟩ : ∃ m : Nat, x = (m : Int) := ⟨x.toNat, by omega⟩
          have HP2 : Hid (Pre hs (i0 + 1) (ms ++ [m])) := pre_next HPRE.out HX.out (by omega) (by omega) (by rw [HN1.out]; omega)
          have hml : ms.length ≤ 60 := by have := HPRE.out.2.1; omega
          have hsum := sum_le ms HPRE.out.2.2.1 hml
          have HSM : Hid ((ms ++ [m]).sum = ms.sum + m) := by unfold Hid; simp
          obtain ⟨S, hS⟩ : ∃ S, ms.sum = S := ⟨_, rfl⟩
          obtain ⟨SM, hSM⟩ : ∃ SM, S + m = SM := ⟨_, rfl⟩
          rw [hS] at HENV HSM hsum
          rw [hSM] at HSM
          have hSi : (S : Int) + (m : Int) = (SM : Int) := by omega
          have e0 : wr.cell? ⟨g + 1, 0, none⟩ = some (.int .i64 S) := cell_of HENV.out.sums 0
          have ef : wr.frozen? ⟨g + 1, 0, none⟩ = false := free_of HENV.out.sums 0
          have HEN2 := Lib.hid (Env.set0 HENV.out SM)
          have HOW2 := Lib.hid (owns_sum (g := g) HOWN.out 0 SM (by omega))
          have hbase : g + 3 ≤ (wr.setCell ⟨g + 1, 0, none⟩ (.int .i64 (SM : Int))).heap.size := HEN2.out.size
          clear hSM hS
          go_upto_region 16 with fail
          obtain ⟨w4, hw4⟩ : ∃ w4, wr.setCell ⟨g + 1, 0, none⟩ (.int .i64 (SM : Int)) = w4 := ⟨_, rfl⟩
          rw [hw4] at HEN2 HOW2 hbase ⊢
          clear hw4
          go_wp2_with (at_builtin; refine append_one rfl _ _ 39 3 (.int .i64 0) 8 Try.underlying39 info3 rfl rfl (g + 3) u7 ms.length _ rfl (.int .i64 (m : Int)) rfl HOW2.out rfl (by omega) (by decide) hbase ?_; intro v5 w5 HO5 HG5)
          have HO6 : Hid (w5.ownsRow (g + 3) 3 1 v5 (ms ++ [m]).length (vi (cz (ms ++ [m])))) := by
            have h5 := HO5.out
            unfold Hid
            rw [cz_snoc, List.length_append]
            simp only [vi, List.map_append, List.map_cons, List.map_nil, List.length_cons, List.length_nil, ← List.append_assoc, ← Nat.add_assoc, Nat.zero_add] at h5 ⊢
            exact h5
          have HE6 : Hid (Env w p (.slice (some ⟨b1, o1, none⟩) n1 c1) (.slice a2 n2 c2) g w5 (ms ++ [m]).sum 0) := by
            unfold Hid
            rw [HSM.out]
            exact HEN2.out.gr HG5.out
          clear HO5 HG5 HEN2 HOW2 e0 ef
          go_roundw
          case rel => exact ⟨i0 + 1, ms ++ [m], by omega, by go_num, HP2, HE6, HO6⟩
          case measure => simp [intOf]; omega
        · obtain rfl : n1 = i0 := by omega
          have HNX : Hid (Out w p (.slice a1 n1 c1) (.slice a2 n2 c2) g hs gs 1 u7 wr) := by
            have h0 := HPRE.out
            rw [← HN1.out] at h0
            have hq := pre_end h0
            exact ⟨ms, [], (fun _ => hq.1), (fun h => by omega), hq.2.1, (fun n h => by cases h), hq.2.2, by simp, (fun h => by omega), (fun _ => rfl), HENV.out, by have := HOWN.out; simpa [gonePieces] using this⟩
          clear HPRE HENV HOWN
          go_wp2_with fail
          go_roundw
          case rel => exact ⟨1, 1, by omega, rfl, rfl, HNX⟩
          case measure => simp [intOf]
    · obtain rfl : z = 1 := by omega
      clear hz
      obtain ⟨a, b, hsa, _, oka, _, la, _, _, hb, henv, hown⟩ := HOUT.out
      obtain rfl := hb (by omega)
      have HSA := Lib.hid (hsa (by omega))
      have HOKA := Lib.hid oka
      have HSUMA := sum_le a oka la
      have HENV : Hid (Env w p (.slice a1 n1 c1) (.slice a2 n2 c2) g wo a.sum ([] : List Nat).sum) := henv
      have HOWN : Hid (wo.ownsRow (g + 3) 3 1 u7 (a.length + ([] : List Nat).length) (vi (cz a ++ gonePieces []))) := hown
      clear HOUT henv hown hb hsa oka
      have q1 : wo.cell? ⟨g + 2, 1, none⟩ = some (.slice a2 n2 c2) := cell_of HENV.out.lists 1
      go_wp2_with fail
      go_loopw [7, 39] (fun v i wr => ∃ (i0 : Nat) (ms : List Nat), i0 ≤ n2 ∧ i = .int .i64 (i0 : Int) ∧ Hid (Pre gs i0 ms) ∧ Hid (Env w p (.slice a1 n1 c1) (.slice a2 n2 c2) g wr a.sum ms.sum) ∧ Hid (wr.ownsRow (g + 3) 3 1 v (a.length + ms.length) (vi (cz a ++ gonePieces ms)))) (fun _ i _ => n2 - (intOf i).toNat)
      case atStart => exact ⟨0, [], Nat.zero_le _, rfl, pre_start _, HENV, HOWN⟩
      case round =>
        clear HENV HOWN q1
        obtain ⟨i0, ms, hi0, rfl, HPRE, HENV, HOWN⟩ := hrel
        by_cases hlt : i0 < n2
        · obtain ⟨x, hx⟩ : ∃ x, gs[i0]? = some x := ⟨gs[i0]'(by rw [HN2.out]; exact hlt), List.getElem?_eq_getElem _⟩
          obtain ⟨x0, x1⟩ := HR2.out x (List.mem_of_getElem? hx)
          obtain ⟨b1, o1, u, hao, hc, rfl⟩ := sl_at HGN.out hx
          have HAO := Lib.hid hao
          have hcell : wr.cell? ⟨b1, o1 + i0, none⟩ = some (.int .i64 x) := HENV.out.grown.cell hc (by simp)
          have HX := Lib.hid hx
          clear hx hc
          subst hao
          by_cases hx1 : x < 1
          · go_wp2_with fail
            go_ret
            exact ⟨rfl, HENV.out.grown⟩
          by_cases hx2 : 1000 < x
          · go_wp2_with fail
            go_ret
            exact ⟨rfl, HENV.out.grown⟩
          by_cases hx3 : 60 < n2
          · go_wp2_with fail
            go_ret
            exact ⟨rfl, HENV.out.grown⟩
          obtain ⟨m, rfl⟩ : ∃ m : Nat, x = (m : Int) := ⟨x.toNat, by omega⟩
          have HP2 : Hid (Pre gs (i0 + 1) (ms ++ [m])) := pre_next HPRE.out HX.out (by omega) (by omega) (by rw [HN2.out]; omega)
          have hml : ms.length ≤ 60 := by have := HPRE.out.2.1; omega
          have hsum := sum_le ms HPRE.out.2.2.1 hml
          have HSM : Hid ((ms ++ [m]).sum = ms.sum + m) := by unfold Hid; simp
          obtain ⟨S, hS⟩ : ∃ S, ms.sum = S := ⟨_, rfl⟩
          obtain ⟨SM, hSM⟩ : ∃ SM, S + m = SM := ⟨_, rfl⟩
          rw [hS] at HENV HSM hsum
          rw [hSM] at HSM
          have hSi : (S : Int) + (m : Int) = (SM : Int) := by omega
          have e0 : wr.cell? ⟨g + 1, 1, none⟩ = some (.int .i64 S) := cell_of HENV.out.sums 1
          have ef : wr.frozen? ⟨g + 1, 1, none⟩ = false := free_of HENV.out.sums 1
          have HEN2 := Lib.hid (Env.set1 HENV.out SM)
          have HOW2 := Lib.hid (owns_sum (g := g) HOWN.out 1 SM (by omega))
          have hbase : g + 3 ≤ (wr.setCell ⟨g + 1, 1, none⟩ (.int .i64 (SM : Int))).heap.size := HEN2.out.size
          clear hSM hS
          have HML := Lib.hid HPRE.out.2.1
          by_cases hi00 : i0 = 0
          · subst hi00
            rw [Nat.add_zero] at hcell
            have hneg : -(m : Int) < 0 := by omega
            go_upto_region 16 with fail
            obtain ⟨w4, hw4⟩ : ∃ w4, wr.setCell ⟨g + 1, 1, none⟩ (.int .i64 (SM : Int)) = w4 := ⟨_, rfl⟩
            rw [hw4] at HEN2 HOW2 hbase ⊢
            clear hw4
            go_wp2_with (at_builtin; refine append_one rfl _ _ 39 3 (.int .i64 0) 8 Try.underlying39 info3 rfl rfl (g + 3) u7 (a.length + ms.length) _ rfl (.int .i64 (-(m : Int))) rfl HOW2.out rfl (by omega) (by decide) hbase ?_; intro v5 w5 HO5 HG5)
            have HO6 : Hid (w5.ownsRow (g + 3) 3 1 v5 (a.length + (ms ++ [m]).length) (vi (cz a ++ gonePieces (ms ++ [m])))) := by
              have h5 := HO5.out
              unfold Hid
              rw [gone_snoc, if_pos HML.out, List.length_append]
              simp only [vi, List.map_append, List.map_cons, List.map_nil, List.length_cons, List.length_nil, ← List.append_assoc, ← Nat.add_assoc, Nat.zero_add] at h5 ⊢
              exact h5
            have HE6 : Hid (Env w p (.slice a1 n1 c1) (.slice (some ⟨b1, o1, none⟩) n2 c2) g w5 a.sum (ms ++ [m]).sum) := by
              unfold Hid
              rw [HSM.out]
              exact HEN2.out.gr HG5.out
            clear HO5 HG5 HEN2 HOW2 e0 ef
            go_roundw
            case rel => exact ⟨0 + 1, ms ++ [m], by omega, by go_num, HP2, HE6, HO6⟩
            case measure => simp [intOf]; omega
          · have hi01 : ((i0 : Int) == 0) = false := by rw [beq_eq_false_iff_ne]; omega
            go_upto_region 16 with fail
            obtain ⟨w4, hw4⟩ : ∃ w4, wr.setCell ⟨g + 1, 1, none⟩ (.int .i64 (SM : Int)) = w4 := ⟨_, rfl⟩
            rw [hw4] at HEN2 HOW2 hbase ⊢
            clear hw4
            go_wp2_with (at_builtin; refine append_one rfl _ _ 39 3 (.int .i64 0) 8 Try.underlying39 info3 rfl rfl (g + 3) u7 (a.length + ms.length) _ rfl (.int .i64 (m : Int)) rfl HOW2.out rfl (by omega) (by decide) hbase ?_; intro v5 w5 HO5 HG5)
            have HO6 : Hid (w5.ownsRow (g + 3) 3 1 v5 (a.length + (ms ++ [m]).length) (vi (cz a ++ gonePieces (ms ++ [m])))) := by
              have h5 := HO5.out
              unfold Hid
              rw [gone_snoc, if_neg (by rw [HML.out]; exact hi00), List.length_append]
              simp only [vi, List.map_append, List.map_cons, List.map_nil, List.length_cons, List.length_nil, ← List.append_assoc, ← Nat.add_assoc, Nat.zero_add] at h5 ⊢
              exact h5
            have HE6 : Hid (Env w p (.slice a1 n1 c1) (.slice (some ⟨b1, o1, none⟩) n2 c2) g w5 a.sum (ms ++ [m]).sum) := by
              unfold Hid
              rw [HSM.out]
              exact HEN2.out.gr HG5.out
            clear HO5 HG5 HEN2 HOW2 e0 ef
            go_roundw
            case rel => exact ⟨i0 + 1, ms ++ [m], by omega, by go_num, HP2, HE6, HO6⟩
            case measure => simp [intOf]; omega
        · obtain rfl : n2 = i0 := by omega
          have HNX : Hid (Out w p (.slice a1 n1 c1) (.slice a2 n2 c2) g hs gs 2 u7 wr) := by
            have h0 := HPRE.out
            rw [← HN2.out] at h0
            have hq := pre_end h0
            exact ⟨a, ms, (fun _ => HSA.out), (fun _ => hq.1), HOKA.out, hq.2.1, la, hq.2.2, (fun h => by omega), (fun h => by omega), HENV.out, HOWN.out⟩
          clear HPRE HENV HOWN
          go_wp2_with fail
          go_roundw
          case rel => exact ⟨2, 2, by omega, rfl, rfl, HNX⟩
          case measure => simp [intOf]
    · obtain rfl : z = 2 := by omega
      clear hz
      obtain ⟨a, b, hsa, hsb, oka, okb, la, lb, _, _, henv, hown⟩ := HOUT.out
      have hA := sum_le a oka la
      have hB := sum_le b okb lb
      have hblk := blocks p a b oka okb la lb
      have hbln := blocks_len p a.sum b.sum hA hB
      obtain ⟨A, hAA⟩ : ∃ A, a.sum = A := ⟨_, rfl⟩
      obtain ⟨B, hBB⟩ : ∃ B, b.sum = B := ⟨_, rfl⟩
      rw [hAA] at hA henv hblk hbln
      rw [hBB] at hB henv hblk hbln
      have hlen : (a.map (fun n : Nat => (n : Int)) ++ gonePieces b).length ≤ 120 := by rw [List.length_append, List.length_map, gone_len]; omega
      obtain ⟨ns, hns⟩ : ∃ ns, a.map (fun n : Nat => (n : Int)) ++ gonePieces b = ns := ⟨_, rfl⟩
      have hils : Ils wo u7 ns := by
        rw [← hns]
        refine owns_sl hown (by simp [vi, cz]) fun i u x hu hx => ?_
        simp only [vi, List.getElem?_map] at hu
        have hx' : (cz a ++ gonePieces b)[i]? = some x := hx
        rw [hx'] at hu
        simpa using hu.symm
      have hrange : ∀ n ∈ ns, -9223372036854775808 ≤ n ∧ n ≤ 9223372036854775807 := by
        intro x hx
        rw [← hns] at hx
        rcases List.mem_append.1 hx with hx | hx
        · obtain ⟨n, hn, rfl⟩ := List.mem_map.1 hx
          have := oka n hn
          omega
        · cases b with
          | nil => cases hx
          | cons y ys =>
            rcases List.mem_cons.1 hx with rfl | hx
            · have := okb y (by simp); omega
            · obtain ⟨n, hn, rfl⟩ := List.mem_map.1 hx
              have := okb n (by simp [hn])
              omega
      rw [hns] at hblk hlen
      have SG1 := Lib.hid (sing_calls p u7 ns wo hst hils hrange (by omega))
      have SG2 : Hid (∀ w2 v2, Ils w2 v2 [(A : Int), -(B : Int)] → Calls Try.prog 16 #[.agg #[.int .i64 p.shape, .int .u32 p.step, .float .f64 p.gain, .int .i64 p.att, .int .i64 p.dec, .int .i64 p.rel, .int .i64 p.sus], v2] w2 fun e w' => SingPost p [(A : Int), -(B : Int)] w2 e w') := fun w2 v2 h => sing_calls p v2 _ w2 hst h (by intro x hx; simp at hx; omega) (by simp)
      have HENV := Lib.hid henv
      obtain ⟨ys1, hy1⟩ : ∃ ys, outsP p st0 ns = ys := ⟨_, rfl⟩
      obtain ⟨ys2, hy2⟩ : ∃ ys, outsP p st0 [(A : Int), -(B : Int)] = ys := ⟨_, rfl⟩
      have HY1 : Hid (ys1.length ≤ 120 ∧ ∀ y ∈ ys1, y.length ≤ 65536) := by
        unfold Hid
        rw [← hy1]
        exact ⟨by rw [outs_len]; exact hlen, outsP_le p st0 ns⟩
      have HY2 : Hid (ys2.length ≤ 120 ∧ ∀ y ∈ ys2, y.length ≤ 65536) := by
        unfold Hid
        rw [← hy2]
        exact ⟨by rw [outs_len]; simp, outsP_le p st0 _⟩
      rw [hy1, hy2] at hblk
      rw [hy2] at hbln
      have HBLK := Lib.hid hblk
      have HBLN := Lib.hid hbln
      obtain ⟨r, hrr⟩ : ∃ r, wrongP p = r := ⟨_, rfl⟩
      have HG0 := henv.grown
      clear hsa hsb oka okb la lb hown hAA hBB hns hils hrange hblk hbln HOUT hlen
      have c0 : wo.cell? ⟨g, 0, none⟩ = some (.int .i64 p.shape) := cell_of henv.patch 0
      have c1 : wo.cell? ⟨g, 1, none⟩ = some (.int .u32 p.step) := cell_of henv.patch 1
      have c2 : wo.cell? ⟨g, 2, none⟩ = some (.float .f64 p.gain) := cell_of henv.patch 2
      have c3 : wo.cell? ⟨g, 3, none⟩ = some (.int .i64 p.att) := cell_of henv.patch 3
      have c4 : wo.cell? ⟨g, 4, none⟩ = some (.int .i64 p.dec) := cell_of henv.patch 4
      have c5 : wo.cell? ⟨g, 5, none⟩ = some (.int .i64 p.rel) := cell_of henv.patch 5
      have c6 : wo.cell? ⟨g, 6, none⟩ = some (.int .i64 p.sus) := cell_of henv.patch 6
      clear henv HG0
      by_cases hr0 : r = 0
      · have S1 : Hid (Calls Try.prog 16 #[.agg #[.int .i64 p.shape, .int .u32 p.step, .float .f64 p.gain, .int .i64 p.att, .int .i64 p.dec, .int .i64 p.rel, .int .i64 p.sus], u7] wo fun e w' => ∃ ao co ae ce, e = .returned (.tuple #[.slice ao ys1.length co, .slice ae ns.length ce, .int .i64 0]) ∧ Hid (Sl PieceR w' (.slice ao ys1.length co) ys1) ∧ Hid (wo.grownBy w' none)) := by
          refine SG1.out.mono fun e w' h => ?_
          obtain ⟨hgr, ⟨h1, _⟩ | ⟨_, vo, ve, rfl, h2, h3⟩⟩ := h
          · exact absurd (hrr.trans hr0) h1
          · rw [hy1] at h2
            obtain ⟨ao, co, rfl⟩ := sl_cap h2.out
            obtain ⟨ae, ce, rfl⟩ := sl_cap h3.out
            exact ⟨ao, co, ae, ce, by rw [List.length_map], h2, hgr⟩
        have S2 : Hid (∀ w2 v2, Ils w2 v2 [(A : Int), -(B : Int)] → Calls Try.prog 16 #[.agg #[.int .i64 p.shape, .int .u32 p.step, .float .f64 p.gain, .int .i64 p.att, .int .i64 p.dec, .int .i64 p.rel, .int .i64 p.sus], v2] w2 fun e w' => ∃ ao co ae ce, e = .returned (.tuple #[.slice ao ys2.length co, .slice ae 2 ce, .int .i64 0]) ∧ Hid (Sl PieceR w' (.slice ao ys2.length co) ys2) ∧ Hid (w2.grownBy w' none)) := by
          intro w2 v2 hi
          refine (SG2.out w2 v2 hi).mono fun e w' h => ?_
          obtain ⟨hgr, ⟨h1, _⟩ | ⟨_, vo, ve, rfl, h2, h3⟩⟩ := h
          · exact absurd (hrr.trans hr0) h1
          · rw [hy2] at h2
            obtain ⟨ao, co, rfl⟩ := sl_cap h2.out
            obtain ⟨ae, ce, rfl⟩ := sl_cap h3.out
            exact ⟨ao, co, ae, ce, by rw [List.length_map]; rfl, h2, hgr⟩
        obtain ⟨m1, hm1⟩ : ∃ m, ys1.length = m := ⟨_, rfl⟩
        obtain ⟨m2, hm2⟩ : ∃ m, ys2.length = m := ⟨_, rfl⟩
        rw [hm1] at S1
        rw [hm2] at S2
        have HM1 := Lib.hid hm1
        have HM2 := Lib.hid hm2
        have hm120 : m1 ≤ 120 := by rw [← hm1]; exact HY1.out.1
        have hm121 : m2 ≤ 120 := by rw [← hm2]; exact HY2.out.1
        clear SG1 SG2 hrr hy1 hy2 hm1 hm2
        go_upto_region 20 with (go_at_call 16; refine (S1.out).mono ?_; rintro e w2 ⟨ao1, co1, ae1, ce1, rfl, HV1, HG1⟩)
        clear c0 c1 c2 c3 c4 c5 c6
        have HENV2 : Hid (Env w p (.slice a1 n1 c1) (.slice a2 n2 c2) g w2 A B) := HENV.out.gr (Gr.of_none (S := []) HG1.out)
        have hne := Mixed.Later.nonempty w2
        have k0 : ∀ n : Mixed.Later w2, n.w.cell? ⟨g, 0, none⟩ = some (.int .i64 p.shape) := Mixed.Later.cell (cell_of HENV2.out.patch 0)
        have k1 : ∀ n : Mixed.Later w2, n.w.cell? ⟨g, 1, none⟩ = some (.int .u32 p.step) := Mixed.Later.cell (cell_of HENV2.out.patch 1)
        have k2 : ∀ n : Mixed.Later w2, n.w.cell? ⟨g, 2, none⟩ = some (.float .f64 p.gain) := Mixed.Later.cell (cell_of HENV2.out.patch 2)
        have k3 : ∀ n : Mixed.Later w2, n.w.cell? ⟨g, 3, none⟩ = some (.int .i64 p.att) := Mixed.Later.cell (cell_of HENV2.out.patch 3)
        have k4 : ∀ n : Mixed.Later w2, n.w.cell? ⟨g, 4, none⟩ = some (.int .i64 p.dec) := Mixed.Later.cell (cell_of HENV2.out.patch 4)
        have k5 : ∀ n : Mixed.Later w2, n.w.cell? ⟨g, 5, none⟩ = some (.int .i64 p.rel) := Mixed.Later.cell (cell_of HENV2.out.patch 5)
        have k6 : ∀ n : Mixed.Later w2, n.w.cell? ⟨g, 6, none⟩ = some (.int .i64 p.sus) := Mixed.Later.cell (cell_of HENV2.out.patch 6)
        have s0 : ∀ n : Mixed.Later w2, n.w.cell? ⟨g + 1, 0, none⟩ = some (.int .i64 (A : Int)) := Mixed.Later.cell (cell_of HENV2.out.sums 0)
        have s1 : ∀ n : Mixed.Later w2, n.w.cell? ⟨g + 1, 1, none⟩ = some (.int .i64 (B : Int)) := Mixed.Later.cell (cell_of HENV2.out.sums 1)
        refine Mixed.wp_region_mixed (Mixed.late w2) (fun k => k == 8 || k == 9) (by kernel_rfl) (by kernel_rfl) (Mixed.late_of (grown_drew (grown_refl _ _))) ?_
        unfold Mixed.late
        refine Mixed.wpM_quiet rfl rfl rfl ?_; intro K hK; go_big_quiet_op; go_big_quiet_on
        refine Mixed.wpM_quiet rfl rfl rfl ?_; intro K hK; go_big_quiet_op; go_big_quiet_on
        refine Mixed.wpM_quiet rfl rfl rfl ?_; intro K hK; go_big_quiet_op; go_big_quiet_on
        refine Mixed.wpM_quiet rfl rfl rfl ?_; intro K hK; go_big_quiet_op; go_big_quiet_on
        refine Mixed.wpM_quiet rfl rfl rfl ?_; intro K hK; go_big_quiet_op; go_big_quiet_on
        refine Mixed.wpM_quiet rfl rfl rfl ?_; intro K hK; go_big_quiet_op; go_big_quiet_on
        refine Mixed.wpM_quiet rfl rfl rfl ?_; intro K hK; go_big_quiet_op; go_big_quiet_on
        refine Mixed.wpM_quiet rfl rfl rfl ?_; intro K hK; go_big_quiet_op; go_big_quiet_on
        refine Mixed.wpM_make rfl rfl (.slice (some ⟨w2.heap.size, 0, none⟩) 2 2) (w2.drew.alloc (.cells #[.int .i64 (A : Int), .int .i64 (-(B : Int))] 3)) (by go_simp) ⟨⟨_, grown_alloc (grown_drew (grown_refl _ _)) _⟩, rfl⟩ ?_
        go_simp
        refine Mixed.wpM_call rfl rfl 16 _ (by go_simp; rfl) ?_
        refine (S2.out _ _ (two_ils w2 A B)).mono ?_
        rintro e w4 ⟨ao2, co2, ae2, ce2, rfl, HV2, hg4⟩
        have HGQ : Hid (w2.grownBy w4 none) := grown_trans (grown_alloc (grown_drew (grown_refl _ _)) _) hg4.out
        clear hg4
        refine ⟨_, rfl, ⟨⟨w4, HGQ.out⟩, rfl⟩, ?_⟩
        go_simp
        refine Mixed.wpM_quiet rfl rfl rfl ?_; intro K hK; go_big_quiet_op; go_big_quiet_on
        refine Mixed.wpM_quiet rfl rfl rfl ?_; intro K hK; go_big_quiet_op; go_big_quiet_on
        refine Mixed.wpM_quiet rfl rfl rfl ?_; intro K hK; go_big_quiet_op; go_big_quiet_on
        refine Mixed.wpM_quiet rfl rfl rfl ?_; intro K hK; go_big_quiet_op; go_big_quiet_on
        refine Mixed.wpM_quiet rfl rfl rfl ?_; intro K hK; go_big_quiet_op; go_big_quiet_on
        refine Mixed.wpM_quiet rfl rfl rfl ?_; intro K hK; go_big_quiet_op; go_big_quiet_on
        refine Mixed.wpM_quiet rfl rfl rfl ?_; intro K hK; go_big_quiet_op; go_big_quiet_on
        refine Mixed.wpM_nil ?_
        intro nx hnx
        clear nx hnx
        clear k0 k1 k2 k3 k4 k5 k6 s0 s1 hne
        have HG4 : Hid (w.grownBy w4 none) := grown_trans HENV2.out.grown HGQ.out
        have HV1b : Hid (Sl PieceR w4 (.slice ao1 m1 co1) ys1) := Sl.grown HV1.out HGQ.out (fun u x h => PieceR.gr h (Gr.of_none (B := 0) (S := []) HGQ.out) (by simp))
        have HENV4 : Hid (Env w p (.slice a1 n1 c1) (.slice a2 n2 c2) g w4 A B) := HENV2.out.gr (Gr.of_none (S := []) HGQ.out)
        clear HENV2 HENV HV1 HG1 S1 S2
        obtain ⟨i0, hi, hz0, hz1, hz2⟩ := info_parts info23
        go_wp2_with fail
        go_loopw [19, 111] (fun v i wr => ∃ k : Nat, k ≤ m1 ∧ i = .int .i64 (k : Int) ∧ Hid (wr.ownsRow w4.heap.size 23 1 v (ys1.take k).flatten.length ((ys1.take k).flatten.map (Value.float .f64))) ∧ Hid (w4.grownBy wr none)) (fun _ i _ => m1 - (intOf i).toNat)
        case atStart => exact ⟨0, Nat.zero_le _, rfl, World.ownsRow_nil _ _ _ _, grown_refl _ _⟩
        case round =>
          obtain ⟨k, hk, rfl, HOW, HGr⟩ := hrel
          by_cases hlt : k < m1
          · obtain ⟨y, hyk⟩ : ∃ y, ys1[k]? = some y := ⟨ys1[k]'(by rw [HM1.out]; exact hlt), List.getElem?_eq_getElem _⟩
            obtain ⟨b1, o1, u1, hao, ca, ra⟩ := sl_at HV1b.out hyk
            obtain ⟨d1, l1, rfl, hel⟩ := sl_open ra.fls
            have hy6 := HY1.out.2 y (List.mem_of_getElem? hyk)
            have hle := flat_take_le HY1.out k
            have HNX := Lib.hid (flat_next hyk)
            have hcell : wr.cell? ⟨b1, o1 + k, none⟩ = some (.slice d1 y.length l1) := HGr.out.cell ca (by simp)
            have HNEW : Hid (∀ j u, (y.map (Value.float .f64))[j]? = some u → ∃ b off, d1 = some ⟨b, off, none⟩ ∧ wr.cell? ⟨b, off + j, none⟩ = some u) := by
              intro j u hj
              rw [List.getElem?_map] at hj
              cases hyj : y[j]? with
              | none => rw [hyj] at hj; cases hj
              | some z =>
                rw [hyj] at hj
                obtain ⟨b, off, u', h1, h2, rfl⟩ := hel j z hyj
                simp only [Option.map_some, Option.some.injEq] at hj
                subst hj
                exact ⟨b, off, h1, HGr.out.cell h2 (by simp)⟩
            have hbase : w4.heap.size ≤ wr.heap.size := HGr.out.size
            obtain ⟨ny, hny⟩ : ∃ n, y.length = n := ⟨_, rfl⟩
            obtain ⟨nf, hnf⟩ : ∃ n, (ys1.take k).flatten.length = n := ⟨_, rfl⟩
            have HNY := Lib.hid hny
            have HNF := Lib.hid hnf
            rw [hny] at hcell hy6
            rw [hnf] at HOW hle
            subst hao
            clear hyk ca ra hel hny hnf
            go_wp2_with (at_builtin; refine append_in rfl _ _ 40 rfl w4.heap.size 23 i0 (.float .f64 0) 8 Try.underlying40 hi hz0 hz1 hz2 rfl u19 nf _ rfl HOW.out d1 ny l1 (y.map (Value.float .f64)) rfl (by rw [List.length_map, HNY.out]) HNEW.out (fun u hu => by obtain ⟨c, _, rfl⟩ := List.mem_map.1 hu; rfl) (by unfold maxLen; omega) (by omega) hbase ?_; intro v9 w9 hown9 hg9 _)
            have HO9 : Hid (w9.ownsRow w4.heap.size 23 1 v9 (ys1.take (k + 1)).flatten.length ((ys1.take (k + 1)).flatten.map (Value.float .f64))) := by
              unfold Hid
              rw [HNX.out, List.length_append, HNF.out, HNY.out, List.map_append]
              exact hown9
            have HG9 : Hid (w4.grownBy w9 none) := app_grown HGr.out (Nat.le_refl _) HOW.out hg9
            clear hown9 hg9
            go_wp2_with fail
            go_roundw
            case rel => exact ⟨k + 1, by omega, by go_num, HO9, HG9⟩
            case measure => simp [intOf]; omega
          · obtain rfl : m1 = k := by omega
            obtain ⟨w5, rfl⟩ : ∃ w5, w5 = wr := ⟨_, rfl⟩
            have HG5 := HGr
            have HV2b : Hid (Sl PieceR w5 (.slice ao2 m2 co2) ys2) := Sl.grown HV2.out HG5.out (fun u x h => PieceR.gr h (Gr.of_none (B := 0) (S := []) HG5.out) (by simp))
            have HF1 : Hid (Fls w5 u19 (ys1.take m1).flatten) := fls_own HOW.out
            clear HOW HGr
            go_wp2_with fail
            go_loopw [20, 121] (fun v i wr => ∃ k : Nat, k ≤ m2 ∧ i = .int .i64 (k : Int) ∧ Hid (wr.ownsRow w5.heap.size 23 1 v (ys2.take k).flatten.length ((ys2.take k).flatten.map (Value.float .f64))) ∧ Hid (w5.grownBy wr none)) (fun _ i _ => m2 - (intOf i).toNat)
            case atStart => exact ⟨0, Nat.zero_le _, rfl, World.ownsRow_nil _ _ _ _, grown_refl _ _⟩
            case round =>
              obtain ⟨k, hk, rfl, HOW, HGr⟩ := hrel
              by_cases hlt : k < m2
              · obtain ⟨y, hyk⟩ : ∃ y, ys2[k]? = some y := ⟨ys2[k]'(by rw [HM2.out]; exact hlt), List.getElem?_eq_getElem _⟩
                obtain ⟨b1, o1, u1, hao, ca, ra⟩ := sl_at HV2b.out hyk
                obtain ⟨d1, l1, rfl, hel⟩ := sl_open ra.fls
                have hy6 := HY2.out.2 y (List.mem_of_getElem? hyk)
                have hle := flat_take_le HY2.out k
                have HNX := Lib.hid (flat_next hyk)
                have hcell : wr.cell? ⟨b1, o1 + k, none⟩ = some (.slice d1 y.length l1) := HGr.out.cell ca (by simp)
                have HNEW : Hid (∀ j u, (y.map (Value.float .f64))[j]? = some u → ∃ b off, d1 = some ⟨b, off, none⟩ ∧ wr.cell? ⟨b, off + j, none⟩ = some u) := by
                  intro j u hj
                  rw [List.getElem?_map] at hj
                  cases hyj : y[j]? with
                  | none => rw [hyj] at hj; cases hj
                  | some z =>
                    rw [hyj] at hj
                    obtain ⟨b, off, u', h1, h2, rfl⟩ := hel j z hyj
                    simp only [Option.map_some, Option.some.injEq] at hj
                    subst hj
                    exact ⟨b, off, h1, HGr.out.cell h2 (by simp)⟩
                have hbase : w5.heap.size ≤ wr.heap.size := HGr.out.size
                obtain ⟨ny, hny⟩ : ∃ n, y.length = n := ⟨_, rfl⟩
                obtain ⟨nf, hnf⟩ : ∃ n, (ys2.take k).flatten.length = n := ⟨_, rfl⟩
                have HNY := Lib.hid hny
                have HNF := Lib.hid hnf
                rw [hny] at hcell hy6
                rw [hnf] at HOW hle
                subst hao
                clear hyk ca ra hel hny hnf
                go_wp2_with (at_builtin; refine append_in rfl _ _ 40 rfl w5.heap.size 23 i0 (.float .f64 0) 8 Try.underlying40 hi hz0 hz1 hz2 rfl u20 nf _ rfl HOW.out d1 ny l1 (y.map (Value.float .f64)) rfl (by rw [List.length_map, HNY.out]) HNEW.out (fun u hu => by obtain ⟨c, _, rfl⟩ := List.mem_map.1 hu; rfl) (by unfold maxLen; omega) (by omega) hbase ?_; intro v9 w9 hown9 hg9 _)
                have HO9 : Hid (w9.ownsRow w5.heap.size 23 1 v9 (ys2.take (k + 1)).flatten.length ((ys2.take (k + 1)).flatten.map (Value.float .f64))) := by
                  unfold Hid
                  rw [HNX.out, List.length_append, HNF.out, HNY.out, List.map_append]
                  exact hown9
                have HG9 : Hid (w5.grownBy w9 none) := app_grown HGr.out (Nat.le_refl _) HOW.out hg9
                clear hown9 hg9
                go_wp2_with fail
                go_roundw
                case rel => exact ⟨k + 1, by omega, by go_num, HO9, HG9⟩
                case measure => simp [intOf]; omega
              · obtain rfl : m2 = k := by omega
                have hle2 := flat_take_le HY2.out m2
                have e1 : ys1.take m1 = ys1 := List.take_of_length_le (by rw [HM1.out]; exact Nat.le_refl _)
                have e2 : ys2.take m2 = ys2 := List.take_of_length_le (by rw [HM2.out]; exact Nat.le_refl _)
                rw [e1] at HF1
                obtain ⟨T, hT⟩ : ∃ T, A + B = T := ⟨_, rfl⟩
                rw [hT] at HBLN
                rw [e2, HBLN.out] at HOW
                have HF2 : Hid (Fls wr u20 ys2.flatten) := by refine fls_own (B := w5.heap.size) ?_; rw [HBLN.out]; exact HOW.out
                have HF1b : Hid (Fls wr u19 ys2.flatten) := by have := HF1.out; rw [HBLK.out] at this; exact this.grown HGr.out
                obtain ⟨a20, c20, hv20⟩ : ∃ a c, u20 = .slice a T c := by
                  rcases owns_cells HOW.out with ⟨rfl, h0, _⟩ | ⟨gg, cap, rfl, _⟩
                  · rw [h0]; exact ⟨_, _, rfl⟩
                  · exact ⟨_, _, rfl⟩
                subst hv20
                have HGZ : Hid (w.grownBy wr none) := grown_trans HG4.out (grown_trans HG5.out HGr.out)
                have s0 : wr.cell? ⟨g + 1, 0, none⟩ = some (.int .i64 (A : Int)) := HGr.out.cell (HG5.out.cell (cell_of HENV4.out.sums 0) (by simp)) (by simp)
                have s1 : wr.cell? ⟨g + 1, 1, none⟩ = some (.int .i64 (B : Int)) := HGr.out.cell (HG5.out.cell (cell_of HENV4.out.sums 1) (by simp)) (by simp)
                have SA : Hid (∀ nq, Calls Try.prog 18 #[u19, .slice a20 T c20] (wr.drewN nq) fun e w' => e = .returned (.bool true) ∧ ∃ m, w' = (wr.drewN nq).drewN m) := fun nq => sameall_calls _ _ ys2.flatten _ HF1b.out HF2.out (by rw [HBLN.out]; omega)
                have hab : IntKind.i64.wrap ((A : Int) + (B : Int)) = (T : Int) := by rw [IntWalk.i64_in _ (by omega)]; omega
                clear HF1 HF2 HF1b HOW HENV4 HV2 HV1b HGr HG5 HG4 e1 e2 hle2
                go_wp2_with fail
                go_quiet ((go_at_call 18; exact Calls.quiet_of (SA.out _)))
                go_wp2_with fail
                go_ret
                exact ⟨rfl, grown_drewN HGZ.out _⟩
      · have S1 : Hid (Calls Try.prog 16 #[.agg #[.int .i64 p.shape, .int .u32 p.step, .float .f64 p.gain, .int .i64 p.att, .int .i64 p.dec, .int .i64 p.rel, .int .i64 p.sus], u7] wo fun e w' => e = .returned (.tuple #[.slice none 0 0, .slice none 0 0, .int .i64 r]) ∧ Hid (wo.grownBy w' none)) := by
          refine SG1.out.mono fun e w' h => ?_
          obtain ⟨hgr, ⟨_, he⟩ | ⟨h1, _⟩⟩ := h
          · rw [hrr] at he; exact ⟨he, hgr⟩
          · exact absurd (hrr.symm.trans h1) hr0
        have S2 : Hid (∀ w2 v2, Ils w2 v2 [(A : Int), -(B : Int)] → Calls Try.prog 16 #[.agg #[.int .i64 p.shape, .int .u32 p.step, .float .f64 p.gain, .int .i64 p.att, .int .i64 p.dec, .int .i64 p.rel, .int .i64 p.sus], v2] w2 fun e w' => e = .returned (.tuple #[.slice none 0 0, .slice none 0 0, .int .i64 r]) ∧ Hid (w2.grownBy w' none)) := by
          intro w2 v2 hi
          refine (SG2.out w2 v2 hi).mono fun e w' h => ?_
          obtain ⟨hgr, ⟨_, he⟩ | ⟨h1, _⟩⟩ := h
          · rw [hrr] at he; exact ⟨he, hgr⟩
          · exact absurd (hrr.symm.trans h1) hr0
        have hr1 : (r != 0) = true := by simpa using hr0
        clear SG1 SG2 hrr hy1 hy2
        go_upto_region 20 with (go_at_call 16; refine (S1.out).mono ?_; rintro e w2 ⟨rfl, HG1⟩)
        clear c0 c1 c2 c3 c4 c5 c6
        have HENV2 : Hid (Env w p (.slice a1 n1 c1) (.slice a2 n2 c2) g w2 A B) := HENV.out.gr (Gr.of_none (S := []) HG1.out)
        have hne := Mixed.Later.nonempty w2
        have k0 : ∀ n : Mixed.Later w2, n.w.cell? ⟨g, 0, none⟩ = some (.int .i64 p.shape) := Mixed.Later.cell (cell_of HENV2.out.patch 0)
        have k1 : ∀ n : Mixed.Later w2, n.w.cell? ⟨g, 1, none⟩ = some (.int .u32 p.step) := Mixed.Later.cell (cell_of HENV2.out.patch 1)
        have k2 : ∀ n : Mixed.Later w2, n.w.cell? ⟨g, 2, none⟩ = some (.float .f64 p.gain) := Mixed.Later.cell (cell_of HENV2.out.patch 2)
        have k3 : ∀ n : Mixed.Later w2, n.w.cell? ⟨g, 3, none⟩ = some (.int .i64 p.att) := Mixed.Later.cell (cell_of HENV2.out.patch 3)
        have k4 : ∀ n : Mixed.Later w2, n.w.cell? ⟨g, 4, none⟩ = some (.int .i64 p.dec) := Mixed.Later.cell (cell_of HENV2.out.patch 4)
        have k5 : ∀ n : Mixed.Later w2, n.w.cell? ⟨g, 5, none⟩ = some (.int .i64 p.rel) := Mixed.Later.cell (cell_of HENV2.out.patch 5)
        have k6 : ∀ n : Mixed.Later w2, n.w.cell? ⟨g, 6, none⟩ = some (.int .i64 p.sus) := Mixed.Later.cell (cell_of HENV2.out.patch 6)
        have s0 : ∀ n : Mixed.Later w2, n.w.cell? ⟨g + 1, 0, none⟩ = some (.int .i64 (A : Int)) := Mixed.Later.cell (cell_of HENV2.out.sums 0)
        have s1 : ∀ n : Mixed.Later w2, n.w.cell? ⟨g + 1, 1, none⟩ = some (.int .i64 (B : Int)) := Mixed.Later.cell (cell_of HENV2.out.sums 1)
        refine Mixed.wp_region_mixed (Mixed.late w2) (fun k => k == 8 || k == 9) (by kernel_rfl) (by kernel_rfl) (Mixed.late_of (grown_drew (grown_refl _ _))) ?_
        unfold Mixed.late
        refine Mixed.wpM_quiet rfl rfl rfl ?_; intro K hK; go_big_quiet_op; go_big_quiet_on
        refine Mixed.wpM_quiet rfl rfl rfl ?_; intro K hK; go_big_quiet_op; go_big_quiet_on
        refine Mixed.wpM_quiet rfl rfl rfl ?_; intro K hK; go_big_quiet_op; go_big_quiet_on
        refine Mixed.wpM_quiet rfl rfl rfl ?_; intro K hK; go_big_quiet_op; go_big_quiet_on
        refine Mixed.wpM_quiet rfl rfl rfl ?_; intro K hK; go_big_quiet_op; go_big_quiet_on
        refine Mixed.wpM_quiet rfl rfl rfl ?_; intro K hK; go_big_quiet_op; go_big_quiet_on
        refine Mixed.wpM_quiet rfl rfl rfl ?_; intro K hK; go_big_quiet_op; go_big_quiet_on
        refine Mixed.wpM_quiet rfl rfl rfl ?_; intro K hK; go_big_quiet_op; go_big_quiet_on
        refine Mixed.wpM_make rfl rfl (.slice (some ⟨w2.heap.size, 0, none⟩) 2 2) (w2.drew.alloc (.cells #[.int .i64 (A : Int), .int .i64 (-(B : Int))] 3)) (by go_simp) ⟨⟨_, grown_alloc (grown_drew (grown_refl _ _)) _⟩, rfl⟩ ?_
        go_simp
        refine Mixed.wpM_call rfl rfl 16 _ (by go_simp; rfl) ?_
        refine (S2.out _ _ (two_ils w2 A B)).mono ?_
        rintro e w4 ⟨rfl, hg4⟩
        have HGQ : Hid (w2.grownBy w4 none) := grown_trans (grown_alloc (grown_drew (grown_refl _ _)) _) hg4.out
        clear hg4
        refine ⟨_, rfl, ⟨⟨w4, HGQ.out⟩, rfl⟩, ?_⟩
        go_simp
        refine Mixed.wpM_quiet rfl rfl rfl ?_; intro K hK; go_big_quiet_op; go_big_quiet_on
        refine Mixed.wpM_quiet rfl rfl rfl ?_; intro K hK; go_big_quiet_op; go_big_quiet_on
        refine Mixed.wpM_quiet rfl rfl rfl ?_; intro K hK; go_big_quiet_op; go_big_quiet_on
        refine Mixed.wpM_quiet rfl rfl rfl ?_; intro K hK; go_big_quiet_op; go_big_quiet_on
        refine Mixed.wpM_quiet rfl rfl rfl ?_; intro K hK; go_big_quiet_op; go_big_quiet_on
        refine Mixed.wpM_quiet rfl rfl rfl ?_; intro K hK; go_big_quiet_op; go_big_quiet_on
        refine Mixed.wpM_quiet rfl rfl rfl ?_; intro K hK; go_big_quiet_op; go_big_quiet_on
        refine Mixed.wpM_nil ?_
        intro nx hnx
        clear nx hnx
        clear k0 k1 k2 k3 k4 k5 k6 s0 s1 hne
        have HG4 : Hid (w.grownBy w4 none) := grown_trans HENV2.out.grown HGQ.out
        clear HENV2 HENV HG1 S1 S2
        go_wp2_with fail
        go_ret
        exact ⟨rfl, HG4.out⟩

end Go.Proofs.Ytadaegnkclleaaa.VBlkL
