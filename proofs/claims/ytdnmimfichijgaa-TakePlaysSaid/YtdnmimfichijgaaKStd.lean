/- Standing, the reference's: the walk. -/
import Derived.Test.YtdnmimfichijgaaKStep
import Derived.Test.YtdnmimfichijgaaKRPl
import Derived.Test.YtdnmimfichijgaaKROk
import Derived.Test.YtdnmimfichijgaaKWith
import Derived.Deep.RegionWith
import Derived.Deep.CutRange
namespace Go.Proofs.Ytdnmimfichijgaa.KStd
open Go Go.RowKit Go.Proofs.Ytdnmimfichijgaa.KMod Go.Proofs.Ytdnmimfichijgaa.KTk Go.Proofs.Ytdnmimfichijgaa.KRead Go.Proofs.Ytdnmimfichijgaa.KCells Go.Proofs.Ytdnmimfichijgaa.KClone Go.Proofs.Ytdnmimfichijgaa.KStep Go.Proofs.Ytdnmimfichijgaa.KWith Go.Proofs.Ytdnmimfichijgaa.KOrd Go.Proofs.Ytdnmimfichijgaa.KRef Go.Proofs.Ytdnmimfichijgaa.KROk Go.Proofs.Ytdnmimfichijgaa.Hp Go.Proofs.Ytdnmimfichijgaa.Rd Go.Proofs.Ytdnmimfichijgaa.Opn
set_option linter.unusedVariables false
set_option linter.unusedSimpArgs false

theorem info40 : (Try.prog.info? 40).map (fun i => (i.zero, i.size, i.bytes)) = some (some (.agg #[.int .i64 0, .int .i64 0, .int .i64 0, .int .i64 0, .int .i64 0, .int .i64 0, .int .i64 0]), 7, 56) := by kernel_rfl
theorem ed_len (e : Ed) : e.cells.length = 7 := rfl
theorem ed_one (es : List Ed) : ∀ u ∈ flC Ed.cells es, u.oneCell' = true := by
  intro u hu
  simp only [flC, List.mem_flatMap] at hu
  obtain ⟨e, _, hu⟩ := hu
  simp only [Ed.cells, List.mem_cons, List.not_mem_nil, or_false] at hu
  rcases hu with rfl | rfl | rfl | rfl | rfl | rfl | rfl <;> rfl
/-- The cells of a slice's part. -/
theorem news_sl {α : Type} {s : Nat} {C : α → List Value} (hC : ∀ x, (C x).length = s) (hs : 0 < s) {w : World} {A : Nat → Prop} {ao : Option Addr} {n c : Nat} {ts : List α} (h : SlA s C w A (.slice ao n c) ts) : ∀ j u, (flC C ts)[j]? = some u → ∃ b off, ao = some ⟨b, off, none⟩ ∧ w.cell? ⟨b, off + j, none⟩ = some u := by
  intro j u hu
  obtain ⟨e, he, hu2⟩ := flC_split hC hs hu
  obtain ⟨b, off, rfl, _, hrg⟩ := sla_at h he
  refine ⟨b, off, rfl, ?_⟩
  have := hrg (j % s) u hu2
  rw [show off + j = off + j / s * s + j % s from by rw [Nat.add_assoc, Nat.div_add_mod']]
  exact this
/-- One of a row of the call's own. -/
theorem own_at {α : Type} {s : Nat} {C : α → List Value} (hC : ∀ x, (C x).length = s) {w : World} {B : Nat} {e : TypeId} {ao : Option Addr} {n c : Nat} {xs : List α} (h : w.ownsRow B e s (.slice ao n c) n (flC C xs)) (hl : xs.length = n) {i : Nat} {x : α} (hx : xs[i]? = some x) :
    ∃ g, ao = some ⟨g, 0, none⟩ ∧ B ≤ g ∧ g < w.heap.size ∧ n ≤ c ∧ ∀ j u, (C x)[j]? = some u → w.cell? ⟨g, i * s + j, none⟩ = some u := by
  have hi := (List.getElem?_eq_some_iff.1 hx).1
  obtain ⟨g, cur, rfl, hB, hg, hnc, _, hsz, hc⟩ := own_row h (by omega)
  refine ⟨g, rfl, hB, lt_of hg, hnc, fun j u hu => ?_⟩
  have hj : j < s := by have := (List.getElem?_eq_some_iff.1 hu).1; rw [hC] at this; exact this
  have hlt : i * s + j < n * s := by
    have : (i + 1) * s ≤ n * s := Nat.mul_le_mul_right _ (by omega)
    rw [Nat.add_mul] at this
    omega
  rw [cell_of hg, hc _ hlt, flC_get hC xs i x hx j hj]
  exact hu
theorem sla_blk {α : Type} {s : Nat} {C : α → List Value} {w : World} {A : Nat → Prop} {g o n c : Nat} {xs : List α} (h : SlA s C w A (.slice (some ⟨g, o, none⟩) n c) xs) : SlA s C w (fun b => b = g) (.slice (some ⟨g, o, none⟩) n c) xs := by
  rcases h with ⟨b, off, cap, ha, e, h⟩ | h
  · simp only [Value.slice.injEq, Option.some.injEq, Addr.mk.injEq] at e
    obtain ⟨⟨rfl, rfl, _⟩, rfl, rfl⟩ := e
    exact .inl ⟨_, _, _, rfl, rfl, h⟩
  · exact .inr h
theorem fr_trans0 {X : Nat → Prop} {a b c : World} (h : Fr X a b) (k : Fr X b c) : Fr X a c :=
  ⟨k.os.trans h.os, k.tape.trans h.tape, k.output.trans h.output, Nat.le_trans h.size k.size, fun i hi hx => (k.block i (Nat.lt_of_lt_of_le hi h.size) hx).trans (h.block i hi hx)⟩
theorem own_sla {α : Type} {s : Nat} {C : α → List Value} (hC : ∀ x, (C x).length = s) {w : World} {B : Nat} {e : TypeId} {v : Value} {n : Nat} {xs : List α} (hl : xs.length = n) (h : w.ownsRow B e s v n (flC C xs)) : SlA s C w AnyB v xs := by
  subst hl
  exact sla_of_own hC h AnyB (fun _ _ => trivial)

set_option maxHeartbeats 4000000 in
set_option maxRecDepth 100000 in
theorem standing_calls (ao : Option Addr) (c : Nat) (l : List Ed) (w : World) (hv : SlA 7 Ed.cells w AnyB (.slice ao l.length c) l) (hok : okD l) (hb : l.length ≤ 1024) :
    Calls Try.prog 28 #[.slice ao l.length c] w fun e w' => ∃ ua uc va vc, e = .returned (.tuple #[.slice ua (stdR l).1.length uc, .slice va (stdR l).2.length vc]) ∧ Hid (w'.ownsRow w.heap.size 40 7 (.slice ua (stdR l).1.length uc) (stdR l).1.length (flC Ed.cells (stdR l).1)) ∧ Hid (w'.ownsRow w.heap.size 40 7 (.slice va (stdR l).2.length vc) (stdR l).2.length (flC Ed.cells (stdR l).2)) ∧ Hid (w.grownBy w' none) := by
  have ST := Lib.hid (std_take hok)
  have HD := Lib.hid hok
  obtain ⟨n, hn⟩ : ∃ n, l.length = n := ⟨_, rfl⟩
  have HN := Lib.hid hn
  have HV := Lib.hid hv
  rw [hn] at HV hb ST ⊢
  clear hv hn hok
  obtain ⟨i0, hi0, hz0, hz1, hz2⟩ := info_parts info40
  have hnb : (n : Int) ≤ 1024 := by omega
  go_enter Try.func28, Try.ntmps28
  go_wp2_with fail
  go_loopw [4, 5, 10] (fun v4 v5 v10 wr => ∃ (k : Nat) (ua : Option Addr) (un uc : Nat) (va : Option Addr) (vn vc : Nat), k ≤ n ∧ v4 = .slice ua un uc ∧ v5 = .slice va vn vc ∧ v10 = .int .i64 (k : Int) ∧ Hid ((stdR (l.take k)).1.length = un) ∧ Hid ((stdR (l.take k)).2.length = vn) ∧ Hid (wr.ownsRow w.heap.size 40 7 (.slice ua un uc) un (flC Ed.cells (stdR (l.take k)).1)) ∧ Hid (wr.ownsRow w.heap.size 40 7 (.slice va vn vc) vn (flC Ed.cells (stdR (l.take k)).2)) ∧ Hid (∀ b, (Value.slice ua un uc).ownBlock = some b → (Value.slice va vn vc).ownBlock ≠ some b) ∧ Hid (w.grownBy wr none)) (fun _ _ v10 _ => n - (intOf v10).toNat)
  case atStart => exact ⟨0, none, 0, 0, none, 0, 0, Nat.zero_le _, rfl, rfl, rfl, rfl, rfl, World.ownsRow_nil _ _ _ _, World.ownsRow_nil _ _ _ _, (fun b h => by cases h), grown_refl _ _⟩
  case round =>
    obtain ⟨k, ua, un, uc, va, vn, vc, hk, rfl, rfl, rfl, HUL, HVL, HU, HW, HNE, HG⟩ := hrel
    obtain ⟨wz, hwz⟩ : ∃ wz : World, wz = wr := ⟨_, rfl⟩
    subst hwz
    by_cases hkn : k = n
    · have HF : Hid (l.take k = l) := by unfold Hid; rw [hkn, List.take_of_length_le (by rw [HN.out]; exact Nat.le_refl _)]
      have hk2 := hkn.symm
      subst hk2
      clear hkn
      rw [HF.out] at HUL HVL HU HW
      go_wp2_with fail
      go_ret2
      rw [HUL.out, HVL.out]
      exact ⟨_, _, _, _, rfl, HU.out, HW.out, HG.out⟩
    have hkl : (k : Int) < (n : Int) := by omega
    have hkl2 : k < n := by omega
    have hst := ST.out k hk
    rw [HUL.out, HVL.out] at hst
    obtain ⟨e, he⟩ : ∃ e, l[k]? = some e := ⟨l[k]'(by rw [HN.out]; omega), List.getElem?_eq_getElem _⟩
    obtain ⟨b, off, rfl, _, hrg⟩ := sla_at HV.out he
    have HTK : Hid (stdR (l.take (k + 1)) = std1 (stdR (l.take k)) e) := by
      unfold Hid
      rw [List.take_add_one, he]
      simp only [Option.toList]
      exact std_snoc _ _
    have HDE := Lib.hid (HD.out k e he)
    clear he
    obtain ⟨⟨up, dn⟩, hS⟩ : ∃ S, stdR (l.take k) = S := ⟨_, rfl⟩
    rw [hS] at HTK HDE HUL HVL HU HW
    simp only at HDE HUL HVL HU HW
    clear hS
    obtain ⟨D, N, ⟨ta, tl, tt, tal, to_⟩⟩ := e
    have e0 : wz.cell? ⟨b, off + k * 7, none⟩ = some (.int .i64 D) := grown_cell HG.out (hrg 0 _ rfl) (by simp)
    have e1 : wz.cell? ⟨b, off + k * 7 + 1, none⟩ = some (.int .i64 N) := grown_cell HG.out (hrg 1 _ rfl) (by simp)
    have e2 : wz.cell? ⟨b, off + k * 7 + 2, none⟩ = some (.int .i64 ta) := grown_cell HG.out (hrg 2 _ rfl) (by simp)
    have e3 : wz.cell? ⟨b, off + k * 7 + 3, none⟩ = some (.int .i64 tl) := grown_cell HG.out (hrg 3 _ rfl) (by simp)
    have e4 : wz.cell? ⟨b, off + k * 7 + 4, none⟩ = some (.int .i64 tt) := grown_cell HG.out (hrg 4 _ rfl) (by simp)
    have e5 : wz.cell? ⟨b, off + k * 7 + 5, none⟩ = some (.int .i64 tal) := grown_cell HG.out (hrg 5 _ rfl) (by simp)
    have e6 : wz.cell? ⟨b, off + k * 7 + 6, none⟩ = some (.int .i64 to_) := grown_cell HG.out (hrg 6 _ rfl) (by simp)
    clear hrg
    obtain ⟨eb, heb⟩ : ∃ eb, wz.heap.size = eb := ⟨_, rfl⟩
    have HEB := Lib.hid heb
    clear heb
    go_upto_region 5 with fail
    simp only [HEB.out]
    obtain ⟨w1, hw1⟩ : ∃ w1, wz.alloc (.cells #[.int .i64 D, .int .i64 N, .int .i64 ta, .int .i64 tl, .int .i64 tt, .int .i64 tal, .int .i64 to_] 40) = w1 := ⟨_, rfl⟩
    have HGZ : Hid (wz.grownBy w1 none) := by unfold Hid; rw [← hw1]; exact grown_alloc (grown_refl _ _) _
    have HG1 : Hid (w.grownBy w1 none) := grown_trans HG.out HGZ.out
    have HR1 : Hid (w1.heap[eb]? = some (.cells #[.int .i64 D, .int .i64 N, .int .i64 ta, .int .i64 tl, .int .i64 tt, .int .i64 tal, .int .i64 to_] 40 (0, 0))) := by unfold Hid; rw [← hw1, ← HEB.out]; exact heap_alloc_new _ _
    have HU1 : Hid (w1.ownsRow w.heap.size 40 7 (.slice ua un uc) un (flC Ed.cells up)) := own_kept HU.out HGZ.out
    have HW1 : Hid (w1.ownsRow w.heap.size 40 7 (.slice va vn vc) vn (flC Ed.cells dn)) := own_kept HW.out HGZ.out
    simp only [hw1]
    clear hw1 HU HW
    clear e0 e1 e2 e3 e4 e5 e6
    have q0 : w1.cell? ⟨eb, 0, none⟩ = some (.int .i64 D) := cell_of HR1.out 0
    have q1 : w1.cell? ⟨eb, 1, none⟩ = some (.int .i64 N) := cell_of HR1.out 1
    have q2 : w1.cell? ⟨eb, 2, none⟩ = some (.int .i64 ta) := cell_of HR1.out 2
    have q3 : w1.cell? ⟨eb, 3, none⟩ = some (.int .i64 tl) := cell_of HR1.out 3
    have q4 : w1.cell? ⟨eb, 4, none⟩ = some (.int .i64 tt) := cell_of HR1.out 4
    have q5 : w1.cell? ⟨eb, 5, none⟩ = some (.int .i64 tal) := cell_of HR1.out 5
    have q6 : w1.cell? ⟨eb, 6, none⟩ = some (.int .i64 to_) := cell_of HR1.out 6
    have hwk : IntKind.i64.wrap ((k : Int) + 1) = (k : Int) + 1 := IntWalk.i64_in _ (by omega)
    by_cases h3 : D = 3
    · have hne : up ≠ [] := HDE.out.1 h3
      obtain ⟨m, hm⟩ : ∃ m, un = m + 1 := ⟨un - 1, by have := List.length_pos_iff.2 hne; have := HUL.out; omega⟩
      subst hm
      obtain ⟨x, hx⟩ : ∃ x, up[m]? = some x := ⟨up[m]'(by have := HUL.out; omega), List.getElem?_eq_getElem _⟩
      have HSP := Lib.hid (last_split up hne)
      have HLX : Hid (up.getLastD ed0 = x) := by
        unfold Hid
        rw [List.getLastD_eq_getLast?, List.getLast?_eq_getElem?, HUL.out, Nat.add_sub_cancel, hx]
        rfl
      have HDL : Hid (up.dropLast.length = m) := by unfold Hid; rw [List.length_dropLast, HUL.out]; rfl
      have HS2 : Hid (std1 (up, dn) ⟨D, N, ⟨ta, tl, tt, tal, to_⟩⟩ = (up.dropLast, dn ++ [x])) := by unfold Hid std1; rw [if_pos h3, HLX.out]
      obtain ⟨g, rfl, hgB, hgL, hmc, hrx⟩ := own_at ed_len HU1.out HUL.out hx
      have HUS : Hid (SlA 7 Ed.cells w1 AnyB (.slice (some ⟨g, 0, none⟩) m uc) up.dropLast) := by
        have h := sla_take (own_sla ed_len HUL.out HU1.out) HUL.out (show m ≤ m + 1 by omega)
        rw [List.dropLast_eq_take, HUL.out, Nat.add_sub_cancel]
        exact h
      obtain ⟨xd, xn, ⟨xa, xl, xt, xal, xo⟩⟩ := x
      have x0 : w1.cell? ⟨g, m * 7, none⟩ = some (.int .i64 xd) := hrx 0 _ rfl
      have x1 : w1.cell? ⟨g, m * 7 + 1, none⟩ = some (.int .i64 xn) := hrx 1 _ rfl
      have x2 : w1.cell? ⟨g, m * 7 + 2, none⟩ = some (.int .i64 xa) := hrx 2 _ rfl
      have x3 : w1.cell? ⟨g, m * 7 + 3, none⟩ = some (.int .i64 xl) := hrx 3 _ rfl
      have x4 : w1.cell? ⟨g, m * 7 + 4, none⟩ = some (.int .i64 xt) := hrx 4 _ rfl
      have x5 : w1.cell? ⟨g, m * 7 + 5, none⟩ = some (.int .i64 xal) := hrx 5 _ rfl
      have x6 : w1.cell? ⟨g, m * 7 + 6, none⟩ = some (.int .i64 xo) := hrx 6 _ rfl
      have hwm : IntKind.i64.wrap ((m : Int) + 1 - 1) = (m : Int) := by rw [IntWalk.i64_in _ (by omega)]; omega
      have hwm2 : IntKind.i64.wrap (m : Int) = (m : Int) := IntWalk.i64_in _ (by omega)
      have hmi : (m : Int) < (m : Int) + 1 := by omega
      have hmj : (0 : Int) ≤ (m : Int) := by omega
      have hmc2 : (m : Int) ≤ (uc : Int) := by omega
      have HGB : Hid (w1.grownBy (w1.alloc (.cells #[.int .i64 xd, .int .i64 xn, .int .i64 xa, .int .i64 xl, .int .i64 xt, .int .i64 xal, .int .i64 xo] 40)) none) := grown_alloc (grown_refl _ _) _
      have HW2 := Lib.hid (own_kept HW1.out HGB.out)
      have HU2 := Lib.hid (own_kept HU1.out HGB.out)
      clear hrx hx hne
      subst h3
      go_upto_region 9 with (at_builtin; refine wpList_append_own_at _ rfl _ _ 58 rfl w.heap.size 40 i0 (.agg #[.int .i64 0, .int .i64 0, .int .i64 0, .int .i64 0, .int .i64 0, .int .i64 0, .int .i64 0]) 7 56 Try.underlying58 hi0 hz0 hz1 hz2 rfl (by decide) (.slice va vn vc) vn (flC Ed.cells dn) rfl HW2.out ⟨w1.heap.size, 0, none⟩ 1 1 [.int .i64 xd, .int .i64 xn, .int .i64 xa, .int .i64 xl, .int .i64 xt, .int .i64 xal, .int .i64 xo] rfl rfl (fun j u hu => by rw [show ((⟨w1.heap.size, 0, none⟩ : Addr).add j) = ⟨w1.heap.size, 0 + j, none⟩ from Addr.add_lit _ _ _, Nat.zero_add, cell_of (heap_alloc_new _ _), ← Array.getElem?_toList]; exact hu) (by simp [Value.oneCell']) (by unfold maxLen; omega) (by omega) (by have h1 := HG1.out.size; have h2 := HGB.out.size; omega) ?_; intro v3 w3 ho3 hg3 _ hb3; obtain ⟨oa3, oc3, rfl⟩ := own_slice ho3)
      have HW3 : Hid (w3.ownsRow w.heap.size 40 7 (.slice oa3 (vn + 1) oc3) (vn + 1) (flC Ed.cells (dn ++ [⟨xd, xn, ⟨xa, xl, xt, xal, xo⟩⟩]))) := by
        unfold Hid
        rw [flC_append]
        exact ho3
      have HFR : Hid (Fr (fun b => (Value.slice va vn vc).ownBlock = some b) w1 w3) := fr_trans0 (.none HGB.out) (.of hg3 (fun i e => e))
      have HG3 : Hid (w.grownBy w3 none) := grown_own (grown_trans HG1.out HGB.out) HW2.out (Nat.le_refl _) hg3
      have HUS3 : Hid (SlA 7 Ed.cells w3 (fun b => b = g) (.slice (some ⟨g, 0, none⟩) m uc) up.dropLast) := (sla_blk HUS.out).fr HFR.out (fun b hb => by subst hb; exact HNE.out b rfl)
      have HUE : Hid ((flC Ed.cells up.dropLast).length = m * 7) := by unfold Hid; rw [flC_len ed_len, HDL.out]
      have HGE : Hid (w3.grownBy (w3.alloc (.cells #[] 40)) none) := grown_alloc (grown_refl _ _) _
      have HNB : Hid (∀ b, (Value.slice oa3 (vn + 1) oc3).ownBlock = some b → b < w3.heap.size) := fun b hb => (own_base HW3.out hb).2
      clear ho3 hg3 HUS
      go_upto_region 13 with (at_builtin; refine wpList_append_own_at _ rfl _ _ 58 rfl w.heap.size 40 i0 (.agg #[.int .i64 0, .int .i64 0, .int .i64 0, .int .i64 0, .int .i64 0, .int .i64 0, .int .i64 0]) 7 56 Try.underlying58 hi0 hz0 hz1 hz2 rfl (by decide) (.slice (some ⟨w3.heap.size, 0, none⟩) 0 0) 0 [] rfl (own_emp (heap_alloc_new _ _) HG3.out.size) ⟨g, 0, none⟩ m uc (flC Ed.cells up.dropLast) rfl HUE.out (fun j u hu => by obtain ⟨b9, o9, h9, h8⟩ := news_sl ed_len (by decide) (HUS3.out.grown HGE.out) j u hu; injection h9 with h9; injection h9 with h9 h7; subst h9 h7; rw [show ((⟨g, 0, none⟩ : Addr).add j) = ⟨g, 0 + j, none⟩ from Addr.add_lit _ _ _]; exact h8) (ed_one _) (by unfold maxLen; omega) (by omega) (Nat.le_trans HG3.out.size HGE.out.size) ?_; intro v5 w5 ho5 hg5 _ hb5; obtain ⟨oa5, oc5, rfl⟩ := own_slice ho5)
      simp only [Nat.zero_add, List.nil_append] at ho5 hb5 ⊢
      have HG5 : Hid (w.grownBy w5 none) := grown_own (sz := 7) (grown_trans HG3.out HGE.out) (own_emp (heap_alloc_new _ _) HG3.out.size) (Nat.le_refl _) hg5
      have HU5 : Hid (w5.ownsRow w.heap.size 40 7 (.slice oa5 m oc5) m (flC Ed.cells (stdR (l.take (k + 1))).1)) := by unfold Hid; rw [HTK.out, HS2.out]; exact ho5
      have HW5 : Hid (w5.ownsRow w.heap.size 40 7 (.slice oa3 (vn + 1) oc3) (vn + 1) (flC Ed.cells (stdR (l.take (k + 1))).2)) := by
        unfold Hid
        rw [HTK.out, HS2.out]
        exact own_fr (own_kept HW3.out HGE.out) (.of (X := fun b => b = w3.heap.size) hg5 (fun i e => by injection e with e; exact e.symm)) (fun b hb h => by have := HNB.out b hb; omega)
      have HUL5 : Hid ((stdR (l.take (k + 1))).1.length = m) := by unfold Hid; rw [HTK.out, HS2.out]; exact HDL.out
      have HVL5 : Hid ((stdR (l.take (k + 1))).2.length = vn + 1) := by unfold Hid; rw [HTK.out, HS2.out, List.length_append, HVL.out]; rfl
      have HNE5 : Hid (∀ b, (Value.slice oa5 m oc5).ownBlock = some b → (Value.slice oa3 (vn + 1) oc3).ownBlock ≠ some b) := fun b hb h => by
        have h1 := HNB.out b h
        rcases hb5 with h9 | h9
        · rw [h9] at hb
          have hb : w3.heap.size = b := Option.some.inj hb
          omega
        · rw [h9] at hb
          injection hb with hb
          have := HGE.out.size
          omega
      clear ho5 hg5 hb5
      go_wp2_with fail
      refine ⟨?_, by simp [intOf]; omega⟩
      first
        | exact ⟨k + 1, oa5, m, oc5, oa3, vn + 1, oc3, by omega, rfl, rfl, rfl, HUL5.out, HVL5.out, HU5.out, HW5.out, HNE5.out, HG5.out⟩
        | (repeat apply Exists.intro
           refine ⟨?_, rfl⟩
           exact ⟨k + 1, oa5, m, oc5, oa3, vn + 1, oc3, by omega, rfl, rfl, rfl, HUL5.out, HVL5.out, HU5.out, HW5.out, HNE5.out, HG5.out⟩)
    by_cases h4 : D = 4
    · have hne : dn ≠ [] := HDE.out.2 h4
      obtain ⟨m, hm⟩ : ∃ m, vn = m + 1 := ⟨vn - 1, by have := List.length_pos_iff.2 hne; have := HVL.out; omega⟩
      subst hm
      obtain ⟨x, hx⟩ : ∃ x, dn[m]? = some x := ⟨dn[m]'(by have := HVL.out; omega), List.getElem?_eq_getElem _⟩
      have HLX : Hid (dn.getLastD ed0 = x) := by
        unfold Hid
        rw [List.getLastD_eq_getLast?, List.getLast?_eq_getElem?, HVL.out, Nat.add_sub_cancel, hx]
        rfl
      have HDL : Hid (dn.dropLast.length = m) := by unfold Hid; rw [List.length_dropLast, HVL.out]; rfl
      have HS2 : Hid (std1 (up, dn) ⟨D, N, ⟨ta, tl, tt, tal, to_⟩⟩ = (up ++ [x], dn.dropLast)) := by unfold Hid std1; rw [if_neg h3, if_pos h4, HLX.out]
      obtain ⟨g, rfl, hgB, hgL, hmc, hrx⟩ := own_at ed_len HW1.out HVL.out hx
      have HVS : Hid (SlA 7 Ed.cells w1 AnyB (.slice (some ⟨g, 0, none⟩) m vc) dn.dropLast) := by
        have h := sla_take (own_sla ed_len HVL.out HW1.out) HVL.out (show m ≤ m + 1 by omega)
        rw [List.dropLast_eq_take, HVL.out, Nat.add_sub_cancel]
        exact h
      have HUS : Hid (SlA 7 Ed.cells w1 AnyB (.slice ua un uc) up) := own_sla ed_len HUL.out HU1.out
      have HUE : Hid ((flC Ed.cells up).length = un * 7) := by unfold Hid; rw [flC_len ed_len, HUL.out]
      have HVE : Hid ((flC Ed.cells dn.dropLast).length = m * 7) := by unfold Hid; rw [flC_len ed_len, HDL.out]
      obtain ⟨xd, xn, ⟨xa, xl, xt, xal, xo⟩⟩ := x
      have x0 : w1.cell? ⟨g, m * 7, none⟩ = some (.int .i64 xd) := hrx 0 _ rfl
      have x1 : w1.cell? ⟨g, m * 7 + 1, none⟩ = some (.int .i64 xn) := hrx 1 _ rfl
      have x2 : w1.cell? ⟨g, m * 7 + 2, none⟩ = some (.int .i64 xa) := hrx 2 _ rfl
      have x3 : w1.cell? ⟨g, m * 7 + 3, none⟩ = some (.int .i64 xl) := hrx 3 _ rfl
      have x4 : w1.cell? ⟨g, m * 7 + 4, none⟩ = some (.int .i64 xt) := hrx 4 _ rfl
      have x5 : w1.cell? ⟨g, m * 7 + 5, none⟩ = some (.int .i64 xal) := hrx 5 _ rfl
      have x6 : w1.cell? ⟨g, m * 7 + 6, none⟩ = some (.int .i64 xo) := hrx 6 _ rfl
      have qd0 : w1.drew.cell? ⟨g, m * 7, none⟩ = some (.int .i64 xd) := x0
      have qd1 : w1.drew.cell? ⟨g, m * 7 + 1, none⟩ = some (.int .i64 xn) := x1
      have qd2 : w1.drew.cell? ⟨g, m * 7 + 2, none⟩ = some (.int .i64 xa) := x2
      have qd3 : w1.drew.cell? ⟨g, m * 7 + 3, none⟩ = some (.int .i64 xl) := x3
      have qd4 : w1.drew.cell? ⟨g, m * 7 + 4, none⟩ = some (.int .i64 xt) := x4
      have qd5 : w1.drew.cell? ⟨g, m * 7 + 5, none⟩ = some (.int .i64 xal) := x5
      have qd6 : w1.drew.cell? ⟨g, m * 7 + 6, none⟩ = some (.int .i64 xo) := x6
      have qa0 : ∀ o, (w1.alloc o).drew.cell? ⟨g, m * 7, none⟩ = some (.int .i64 xd) := fun o => grown_cell (grown_alloc_drew w1 o) x0 (by simp)
      have qa1 : ∀ o, (w1.alloc o).drew.cell? ⟨g, m * 7 + 1, none⟩ = some (.int .i64 xn) := fun o => grown_cell (grown_alloc_drew w1 o) x1 (by simp)
      have qa2 : ∀ o, (w1.alloc o).drew.cell? ⟨g, m * 7 + 2, none⟩ = some (.int .i64 xa) := fun o => grown_cell (grown_alloc_drew w1 o) x2 (by simp)
      have qa3 : ∀ o, (w1.alloc o).drew.cell? ⟨g, m * 7 + 3, none⟩ = some (.int .i64 xl) := fun o => grown_cell (grown_alloc_drew w1 o) x3 (by simp)
      have qa4 : ∀ o, (w1.alloc o).drew.cell? ⟨g, m * 7 + 4, none⟩ = some (.int .i64 xt) := fun o => grown_cell (grown_alloc_drew w1 o) x4 (by simp)
      have qa5 : ∀ o, (w1.alloc o).drew.cell? ⟨g, m * 7 + 5, none⟩ = some (.int .i64 xal) := fun o => grown_cell (grown_alloc_drew w1 o) x5 (by simp)
      have qa6 : ∀ o, (w1.alloc o).drew.cell? ⟨g, m * 7 + 6, none⟩ = some (.int .i64 xo) := fun o => grown_cell (grown_alloc_drew w1 o) x6 (by simp)
      have hwm : IntKind.i64.wrap ((m : Int) + 1 - 1) = (m : Int) := by rw [IntWalk.i64_in _ (by omega)]; omega
      have hwm2 : IntKind.i64.wrap (m : Int) = (m : Int) := IntWalk.i64_in _ (by omega)
      have hmi : (m : Int) < (m : Int) + 1 := by omega
      have hmj : (0 : Int) ≤ (m : Int) := by omega
      have hmc2 : (m : Int) ≤ (vc : Int) := by omega
      obtain ⟨wf, hwf⟩ : ∃ wf : World, wf = w1 := ⟨_, rfl⟩
      subst hwf
      clear hrx hx hne
      subst h4
      go_upto_region 11 with fail
      go_region_law (first
        | (refine step_append_emp rfl _ _ 58 rfl wf.heap.size 40 i0 (.agg #[.int .i64 0, .int .i64 0, .int .i64 0, .int .i64 0, .int .i64 0, .int .i64 0, .int .i64 0]) 7 56 Try.underlying58 hi0 hz0 hz1 hz2 rfl (by decide) _ rfl (by first | exact alloc2_old _ _ _ | exact alloc2_new _ _ _ | exact heap_alloc_new _ _) (by simp) (ua) (un) (uc) (flC Ed.cells (up)) rfl HUE.out (news_sl ed_len (by decide) (HUS.out.grown (by repeat (first | exact grown_refl _ _ | refine grown_alloc ?_ _ | refine grown_drew ?_)))) (ed_one _) (by unfold maxLen; omega) (by omega) (by first | (simp; done) | (simp; omega)) ?_; intro oa1 oc1 w1' ho1 hg1; have HO1_ := Lib.hid ho1; have HG1_ : Hid (wf.grownBy w1' none) := grown_new2 (by repeat (first | exact grown_refl _ _ | refine grown_alloc ?_ _ | refine grown_drew ?_)) hg1 (by simp); have r0 := grown_cell HG1_.out x0 (by simp); have r1 := grown_cell HG1_.out x1 (by simp); have r2 := grown_cell HG1_.out x2 (by simp); have r3 := grown_cell HG1_.out x3 (by simp); have r4 := grown_cell HG1_.out x4 (by simp); have r5 := grown_cell HG1_.out x5 (by simp); have r6 := grown_cell HG1_.out x6 (by simp); first | have HB_ := Lib.hid (row_kept hg1 (alloc2_old wf.drew (.cells #[.int .i64 xd, .int .i64 xn, .int .i64 xa, .int .i64 xl, .int .i64 xt, .int .i64 xal, .int .i64 xo] 40) _) (by simp)) | have HB_ := Lib.hid (row_kept hg1 (alloc2_new wf.drew _ (.cells #[.int .i64 xd, .int .i64 xn, .int .i64 xa, .int .i64 xl, .int .i64 xt, .int .i64 xal, .int .i64 xo] 40)) (by simp)) | skip; clear ho1 hg1)
        | (refine step_append_in rfl _ _ 58 rfl wf.heap.size 40 i0 (.agg #[.int .i64 0, .int .i64 0, .int .i64 0, .int .i64 0, .int .i64 0, .int .i64 0, .int .i64 0]) 7 56 Try.underlying58 hi0 hz0 hz1 hz2 rfl (by decide) (.slice oa1 (un) oc1) (un) (flC Ed.cells (up)) rfl (by first | exact HO1_.out | exact own_kept HO1_.out (grown_alloc (grown_refl _ _) _)) (some ⟨_, 0, none⟩) 1 1 [.int .i64 xd, .int .i64 xn, .int .i64 xa, .int .i64 xl, .int .i64 xt, .int .i64 xal, .int .i64 xo] rfl rfl (news_row (by first | exact heap_alloc_new _ _ | exact HB_.out)) (by simp [Value.oneCell']) (by unfold maxLen; omega) (by omega) (by first | exact HG1_.out.size | exact Nat.le_trans HG1_.out.size (by simp)) ?_; intro oa2 oc2 w2' ho2 hg2 hb2; have HO2_ := Lib.hid ho2; have HG2_ : Hid (wf.grownBy w2' none) := grown_own (by first | exact HG1_.out | exact grown_alloc HG1_.out _) (by first | exact HO1_.out | exact own_kept HO1_.out (grown_alloc (grown_refl _ _) _)) (Nat.le_refl _) hg2; clear ho2 hg2 hb2))
      all_goals
        have HU2 : Hid (w2'.ownsRow w.heap.size 40 7 (.slice oa2 (un + 1) oc2) (un + 1) (flC Ed.cells (stdR (l.take (k + 1))).1)) := by
          unfold Hid
          rw [HTK.out, HS2.out]
          simp only
          rw [flC_append]
          exact own_mono HO2_.out HG1.out.size
        have HW2 := Lib.hid (own_kept HW1.out HG2_.out)
        have HG2 : Hid (w.grownBy w2' none) := grown_trans HG1.out HG2_.out
        have HVS2 : Hid (SlA 7 Ed.cells w2' AnyB (.slice (some ⟨g, 0, none⟩) m vc) dn.dropLast) := HVS.out.grown HG2_.out
        have HGE : Hid (w2'.grownBy (w2'.alloc (.cells #[] 40)) none) := grown_alloc (grown_refl _ _) _
        have HNB : Hid (∀ b, (Value.slice oa2 (un + 1) oc2).ownBlock = some b → b < w2'.heap.size) := fun b hb => (own_base HU2.out hb).2
        clear HO2_ HVS HUS x0 x1 x2 x3 x4 x5 x6 qd0 qd1 qd2 qd3 qd4 qd5 qd6 qa0 qa1 qa2 qa3 qa4 qa5 qa6
        go_upto_region 13 with (at_builtin; refine wpList_append_own_at _ rfl _ _ 58 rfl w.heap.size 40 i0 (.agg #[.int .i64 0, .int .i64 0, .int .i64 0, .int .i64 0, .int .i64 0, .int .i64 0, .int .i64 0]) 7 56 Try.underlying58 hi0 hz0 hz1 hz2 rfl (by decide) (.slice (some ⟨w2'.heap.size, 0, none⟩) 0 0) 0 [] rfl (own_emp (heap_alloc_new _ _) HG2.out.size) ⟨g, 0, none⟩ m vc (flC Ed.cells dn.dropLast) rfl HVE.out (fun j u hu => by obtain ⟨b9, o9, h9, h8⟩ := news_sl ed_len (by decide) (HVS2.out.grown HGE.out) j u hu; injection h9 with h9; injection h9 with h9 h7; subst h9 h7; rw [show ((⟨g, 0, none⟩ : Addr).add j) = ⟨g, 0 + j, none⟩ from Addr.add_lit _ _ _]; exact h8) (ed_one _) (by unfold maxLen; omega) (by omega) (Nat.le_trans HG2.out.size HGE.out.size) ?_; intro v5 w5 ho5 hg5 _ hb5; obtain ⟨oa5, oc5, rfl⟩ := own_slice ho5)
        simp only [Nat.zero_add, List.nil_append] at ho5 hb5 ⊢
        have HG5 : Hid (w.grownBy w5 none) := grown_own (sz := 7) (grown_trans HG2.out HGE.out) (own_emp (heap_alloc_new _ _) HG2.out.size) (Nat.le_refl _) hg5
        have HW5 : Hid (w5.ownsRow w.heap.size 40 7 (.slice oa5 m oc5) m (flC Ed.cells (stdR (l.take (k + 1))).2)) := by unfold Hid; rw [HTK.out, HS2.out]; exact ho5
        have HU5 : Hid (w5.ownsRow w.heap.size 40 7 (.slice oa2 (un + 1) oc2) (un + 1) (flC Ed.cells (stdR (l.take (k + 1))).1)) :=
          own_fr (own_kept HU2.out HGE.out) (.of (X := fun b => b = w2'.heap.size) hg5 (fun i e => by injection e with e; exact e.symm)) (fun b hb h => by have := HNB.out b hb; omega)
        have HVL5 : Hid ((stdR (l.take (k + 1))).2.length = m) := by unfold Hid; rw [HTK.out, HS2.out]; exact HDL.out
        have HUL5 : Hid ((stdR (l.take (k + 1))).1.length = un + 1) := by unfold Hid; rw [HTK.out, HS2.out, List.length_append, HUL.out]; rfl
        have HNE5 : Hid (∀ b, (Value.slice oa2 (un + 1) oc2).ownBlock = some b → (Value.slice oa5 m oc5).ownBlock ≠ some b) := fun b h hb => by
          have h1 := HNB.out b h
          rcases hb5 with h9 | h9
          · rw [h9] at hb
            have hb : w2'.heap.size = b := Option.some.inj hb
            omega
          · rw [h9] at hb
            injection hb with hb
            have := HGE.out.size
            omega
        clear ho5 hg5 hb5
        go_wp2_with fail
        refine ⟨?_, by simp [intOf]; omega⟩
        first
          | exact ⟨k + 1, oa2, un + 1, oc2, oa5, m, oc5, by omega, rfl, rfl, rfl, HUL5.out, HVL5.out, HU5.out, HW5.out, HNE5.out, HG5.out⟩
          | (repeat apply Exists.intro
             refine ⟨?_, rfl⟩
             exact ⟨k + 1, oa2, un + 1, oc2, oa5, m, oc5, by omega, rfl, rfl, rfl, HUL5.out, HVL5.out, HU5.out, HW5.out, HNE5.out, HG5.out⟩)
    have HS2 : Hid (std1 (up, dn) ⟨D, N, ⟨ta, tl, tt, tal, to_⟩⟩ = (up ++ [⟨D, N, ⟨ta, tl, tt, tal, to_⟩⟩], [])) := by unfold Hid std1; rw [if_neg h3, if_neg h4]
    have HUS : Hid (SlA 7 Ed.cells w1 AnyB (.slice ua un uc) up) := own_sla ed_len HUL.out HU1.out
    have HUE : Hid ((flC Ed.cells up).length = un * 7) := by unfold Hid; rw [flC_len ed_len, HUL.out]
    have qd0 : w1.drew.cell? ⟨eb, 0, none⟩ = some (.int .i64 D) := q0
    have qd1 : w1.drew.cell? ⟨eb, 1, none⟩ = some (.int .i64 N) := q1
    have qd2 : w1.drew.cell? ⟨eb, 2, none⟩ = some (.int .i64 ta) := q2
    have qd3 : w1.drew.cell? ⟨eb, 3, none⟩ = some (.int .i64 tl) := q3
    have qd4 : w1.drew.cell? ⟨eb, 4, none⟩ = some (.int .i64 tt) := q4
    have qd5 : w1.drew.cell? ⟨eb, 5, none⟩ = some (.int .i64 tal) := q5
    have qd6 : w1.drew.cell? ⟨eb, 6, none⟩ = some (.int .i64 to_) := q6
    have qa0 : ∀ o, (w1.alloc o).drew.cell? ⟨eb, 0, none⟩ = some (.int .i64 D) := fun o => grown_cell (grown_alloc_drew w1 o) q0 (by simp)
    have qa1 : ∀ o, (w1.alloc o).drew.cell? ⟨eb, 1, none⟩ = some (.int .i64 N) := fun o => grown_cell (grown_alloc_drew w1 o) q1 (by simp)
    have qa2 : ∀ o, (w1.alloc o).drew.cell? ⟨eb, 2, none⟩ = some (.int .i64 ta) := fun o => grown_cell (grown_alloc_drew w1 o) q2 (by simp)
    have qa3 : ∀ o, (w1.alloc o).drew.cell? ⟨eb, 3, none⟩ = some (.int .i64 tl) := fun o => grown_cell (grown_alloc_drew w1 o) q3 (by simp)
    have qa4 : ∀ o, (w1.alloc o).drew.cell? ⟨eb, 4, none⟩ = some (.int .i64 tt) := fun o => grown_cell (grown_alloc_drew w1 o) q4 (by simp)
    have qa5 : ∀ o, (w1.alloc o).drew.cell? ⟨eb, 5, none⟩ = some (.int .i64 tal) := fun o => grown_cell (grown_alloc_drew w1 o) q5 (by simp)
    have qa6 : ∀ o, (w1.alloc o).drew.cell? ⟨eb, 6, none⟩ = some (.int .i64 to_) := fun o => grown_cell (grown_alloc_drew w1 o) q6 (by simp)
    obtain ⟨wf, hwf⟩ : ∃ wf : World, wf = w1 := ⟨_, rfl⟩
    subst hwf
    go_upto_region 6 with fail
    go_region_law (first
      | (refine step_append_emp rfl _ _ 58 rfl wf.heap.size 40 i0 (.agg #[.int .i64 0, .int .i64 0, .int .i64 0, .int .i64 0, .int .i64 0, .int .i64 0, .int .i64 0]) 7 56 Try.underlying58 hi0 hz0 hz1 hz2 rfl (by decide) _ rfl (by first | exact alloc2_old _ _ _ | exact alloc2_new _ _ _ | exact heap_alloc_new _ _) (by simp) (ua) (un) (uc) (flC Ed.cells (up)) rfl HUE.out (news_sl ed_len (by decide) (HUS.out.grown (by repeat (first | exact grown_refl _ _ | refine grown_alloc ?_ _ | refine grown_drew ?_)))) (ed_one _) (by unfold maxLen; omega) (by omega) (by first | (simp; done) | (simp; omega)) ?_; intro oa1 oc1 w1' ho1 hg1; have HO1_ := Lib.hid ho1; have HG1_ : Hid (wf.grownBy w1' none) := grown_new2 (by repeat (first | exact grown_refl _ _ | refine grown_alloc ?_ _ | refine grown_drew ?_)) hg1 (by simp); have r0 := grown_cell HG1_.out q0 (by simp); have r1 := grown_cell HG1_.out q1 (by simp); have r2 := grown_cell HG1_.out q2 (by simp); have r3 := grown_cell HG1_.out q3 (by simp); have r4 := grown_cell HG1_.out q4 (by simp); have r5 := grown_cell HG1_.out q5 (by simp); have r6 := grown_cell HG1_.out q6 (by simp); first | have HB_ := Lib.hid (row_kept hg1 (alloc2_old wf.drew (.cells #[.int .i64 D, .int .i64 N, .int .i64 ta, .int .i64 tl, .int .i64 tt, .int .i64 tal, .int .i64 to_] 40) _) (by simp)) | have HB_ := Lib.hid (row_kept hg1 (alloc2_new wf.drew _ (.cells #[.int .i64 D, .int .i64 N, .int .i64 ta, .int .i64 tl, .int .i64 tt, .int .i64 tal, .int .i64 to_] 40)) (by simp)) | skip; clear ho1 hg1)
      | (refine step_append_in rfl _ _ 58 rfl wf.heap.size 40 i0 (.agg #[.int .i64 0, .int .i64 0, .int .i64 0, .int .i64 0, .int .i64 0, .int .i64 0, .int .i64 0]) 7 56 Try.underlying58 hi0 hz0 hz1 hz2 rfl (by decide) (.slice oa1 (un) oc1) (un) (flC Ed.cells (up)) rfl (by first | exact HO1_.out | exact own_kept HO1_.out (grown_alloc (grown_refl _ _) _)) (some ⟨_, 0, none⟩) 1 1 [.int .i64 D, .int .i64 N, .int .i64 ta, .int .i64 tl, .int .i64 tt, .int .i64 tal, .int .i64 to_] rfl rfl (news_row (by first | exact heap_alloc_new _ _ | exact HB_.out)) (by simp [Value.oneCell']) (by unfold maxLen; omega) (by omega) (by first | exact HG1_.out.size | exact Nat.le_trans HG1_.out.size (by simp)) ?_; intro oa2 oc2 w2' ho2 hg2 hb2; have HO2_ := Lib.hid ho2; have HG2_ : Hid (wf.grownBy w2' none) := grown_own (by first | exact HG1_.out | exact grown_alloc HG1_.out _) (by first | exact HO1_.out | exact own_kept HO1_.out (grown_alloc (grown_refl _ _) _)) (Nat.le_refl _) hg2; clear ho2 hg2 hb2))
    all_goals
      have HU2 : Hid (w2'.ownsRow w.heap.size 40 7 (.slice oa2 (un + 1) oc2) (un + 1) (flC Ed.cells (stdR (l.take (k + 1))).1)) := by
        unfold Hid
        rw [HTK.out, HS2.out]
        simp only
        rw [flC_append]
        exact own_mono HO2_.out HG1.out.size
      have HG2 : Hid (w.grownBy w2' none) := grown_trans HG1.out HG2_.out
      have HVL5 : Hid ((stdR (l.take (k + 1))).2.length = 0) := by unfold Hid; rw [HTK.out, HS2.out]; rfl
      have HUL5 : Hid ((stdR (l.take (k + 1))).1.length = un + 1) := by unfold Hid; rw [HTK.out, HS2.out, List.length_append, HUL.out]; rfl
      have HW5 : Hid (w2'.ownsRow w.heap.size 40 7 (.slice none 0 0) 0 (flC Ed.cells (stdR (l.take (k + 1))).2)) := by
        unfold Hid
        rw [HTK.out, HS2.out]
        exact World.ownsRow_nil _ _ _ _
      clear HO2_ HUS q0 q1 q2 q3 q4 q5 q6 qd0 qd1 qd2 qd3 qd4 qd5 qd6 qa0 qa1 qa2 qa3 qa4 qa5 qa6
      go_wp2_with fail
      refine ⟨?_, by simp [intOf]; omega⟩
      first
        | exact ⟨k + 1, oa2, un + 1, oc2, none, 0, 0, by omega, rfl, rfl, rfl, HUL5.out, HVL5.out, HU2.out, HW5.out, (fun b _ h => by cases h), HG2.out⟩
        | (repeat apply Exists.intro
           refine ⟨?_, rfl⟩
           exact ⟨k + 1, oa2, un + 1, oc2, none, 0, 0, by omega, rfl, rfl, rfl, HUL5.out, HVL5.out, HU2.out, HW5.out, (fun b _ h => by cases h), HG2.out⟩)
end Go.Proofs.Ytdnmimfichijgaa.KStd
