/- alive; what came of the steps, as it lies in memory. -/
import Derived.Test.YtdnmimfichijgaaKTake
import Derived.Test.YtdnmimfichijgaaKSame
namespace Go.Proofs.Ytdnmimfichijgaa.KAlive
open Go Go.RowKit Go.Proofs.Ytdnmimfichijgaa.KMod Go.Proofs.Ytdnmimfichijgaa.KTk Go.Proofs.Ytdnmimfichijgaa.KRead Go.Proofs.Ytdnmimfichijgaa.KCells Go.Proofs.Ytdnmimfichijgaa.KTake Go.Proofs.Ytdnmimfichijgaa.Hp Go.Proofs.Ytdnmimfichijgaa.Rd Go.Proofs.Ytdnmimfichijgaa.Opn
set_option linter.unusedVariables false
set_option linter.unusedSimpArgs false

/-- What came of the steps: for each three cells. -/
def TnsR (w : World) (v : Value) (xs : List Tn) : Prop :=
  ∃ us : List Value, us.length = xs.length ∧ SlA 3 tnC w AnyB v (xs.zip us) ∧ ∀ (i : Nat) (x : Tn) (u : Value), xs[i]? = some x → us[i]? = some u → ∃ ao c, u = .slice ao x.ts.length c ∧ Tos w (.slice ao x.ts.length c) x.ts

theorem TnsR.grown {w w' : World} {v : Value} {xs : List Tn} (h : TnsR w v xs) (hg : w.grownBy w' none) : TnsR w' v xs := by
  obtain ⟨us, h1, h2, h3⟩ := h
  exact ⟨us, h1, h2.grown hg, fun i x u hx hu => by
    obtain ⟨ao, c, e, h⟩ := h3 i x u hx hu
    exact ⟨ao, c, e, h.grown hg⟩⟩

theorem zip_fst_snd {α β : Type} : ∀ (l : List (α × β)), (l.map Prod.fst).zip (l.map Prod.snd) = l
  | [] => rfl
  | a :: l => by simp [zip_fst_snd l]

theorem tns_of_out {w : World} {B : Nat} {v : Value} {ys : List (Tn × Value)} {xs : List Tn} (h : OutR w B AnyB v ys) (hx : ys.map Prod.fst = xs) : TnsR w v xs := by
  subst hx
  refine ⟨ys.map Prod.snd, by simp, ?_, fun i x u h1 h2 => ?_⟩
  · rw [zip_fst_snd]
    exact sla_of_own (s := 3) (fun _ => rfl) h.own AnyB (fun _ _ => trivial)
  · rw [List.getElem?_map] at h1 h2
    cases hy : ys[i]? with
    | none => rw [hy] at h1; cases h1
    | some y =>
      rw [hy] at h1 h2
      simp at h1 h2
      subst h1
      subst h2
      have hm := List.mem_of_getElem? hy
      obtain ⟨ao, c, e⟩ := sla_open (h.ts y hm)
      refine ⟨ao, c, e, ?_⟩
      rw [← e]
      exact h.ts y hm

theorem tns_open {w : World} {v : Value} {xs : List Tn} (h : TnsR w v xs) : ∃ ao c, v = .slice ao xs.length c := by
  obtain ⟨us, h1, h2, _⟩ := h
  obtain ⟨ao, c, e⟩ := sla_open h2
  refine ⟨ao, c, ?_⟩
  rw [e, List.length_zip, h1, Nat.min_self]

/-- One of these. -/
theorem tns_at {w : World} {ao : Option Addr} {n c : Nat} {xs : List Tn} (h : TnsR w (.slice ao n c) xs) {i : Nat} {x : Tn} (hx : xs[i]? = some x) : ∃ b off la lc, ao = some ⟨b, off, none⟩ ∧ w.cell? ⟨b, off + i * 3, none⟩ = some (.int .i64 x.err) ∧ w.cell? ⟨b, off + i * 3 + 1, none⟩ = some (.int .i64 x.terr) ∧ w.cell? ⟨b, off + i * 3 + 2, none⟩ = some (.slice la x.ts.length lc) ∧ Tos w (.slice la x.ts.length lc) x.ts := by
  obtain ⟨us, h1, h2, h3⟩ := h
  have hi := (List.getElem?_eq_some_iff.1 hx).1
  obtain ⟨u, hu⟩ : ∃ u, us[i]? = some u := ⟨us[i]'(by omega), List.getElem?_eq_getElem _⟩
  have hz : (xs.zip us)[i]? = some (x, u) := by
    rw [List.getElem?_zip_eq_some]
    exact ⟨hx, hu⟩
  obtain ⟨b, off, rfl, _, hr⟩ := sla_at h2 hz
  obtain ⟨la, lc, rfl, ht⟩ := h3 i x u hx hu
  exact ⟨b, off, la, lc, rfl, hr 0 _ rfl, hr 1 _ rfl, hr 2 _ rfl, ht⟩

def aliveS : List Stp := [⟨false, ⟨1, 0, ⟨0, 1, 0, 0, 0⟩⟩, 0, 0, 0⟩]
theorem alive_run : runK (openT (List.replicate 8 0)) ⟨List.replicate 8 0, -1⟩ aliveS = ([⟨0, 0, [⟨0, 1, 0, 0, 0⟩]⟩], ⟨[1, 1, 0, 0, 1, 0, 0, 0], -1⟩) := by decide +kernel

theorem take_tns (wa sa : Option Addr) (wc sc : Nat) (ws : List Int) (ps : List Stp) (w : World) (hw : Ils w (.slice wa ws.length wc) ws) (hp : SlA 11 stC w AnyB (.slice sa ps.length sc) ps) (hwb : ws.length ≤ 17592186044416) (hpb : ps.length * 88 ≤ 140737488355328) :
    Calls Try.prog 7 #[.slice wa ws.length wc, .slice sa ps.length sc] w
      fun r w' => ∃ la lc ao n c, r = .returned (.tuple #[.slice la (runK (openT ws) ⟨ws, -1⟩ ps).1.length lc, .slice ao n c, .bool true]) ∧ Hid (TnsR w' (.slice la (runK (openT ws) ⟨ws, -1⟩ ps).1.length lc) (runK (openT ws) ⟨ws, -1⟩ ps).1) ∧ Hid (n = ws.length ∧ Ils w' (.slice ao n c) (runK (openT ws) ⟨ws, -1⟩ ps).2.words) ∧ Hid (w.grownBy w' none) := by
  refine (take_calls wa sa wc sc ws ps w hw hp hwb hpb).mono ?_
  rintro r w' ⟨v, ao, n, c, ys, rfl, h1, h2, h3, h4⟩
  have h := tns_of_out h2.out h1.out
  obtain ⟨la, lc, rfl⟩ := tns_open h
  exact ⟨la, lc, ao, n, c, rfl, h, h3, h4⟩

/-- A new row of noughts reads as noughts. -/
theorem ils_noughts {w : World} {g n B : Nat} (h : w.ownsRow B 2 1 (.slice (some ⟨g, 0, none⟩) n n) n (madeCells #[Value.int .i64 0] (n * 1)).toList) : Ils w (.slice (some ⟨g, 0, none⟩) n n) (List.replicate n 0) := by
  rw [Nat.mul_one, madeCells_one] at h
  refine .inl ⟨g, 0, n, by simp, fun i x hx => ⟨.int .i64 x, ?_, rfl⟩⟩
  rw [Nat.zero_add]
  have hi : i < n := by have := (List.getElem?_eq_some_iff.1 hx).1; simpa using this
  have hx0 : x = 0 := by rw [List.getElem?_replicate, if_pos hi] at hx; cases hx; rfl
  subst hx0
  obtain ⟨g2, cur, hg, _, hgg, _, _, _, hc⟩ := own_row h (by omega)
  injection hg with hg
  injection hg with hg _ _
  subst hg
  rw [cell_of hgg, hc i (by omega), List.getElem?_replicate, if_pos hi]

set_option maxHeartbeats 1000000 in
set_option maxRecDepth 100000 in
theorem alive_calls (w : World) : Calls Try.prog 10 #[] w fun e w' => e = .returned (.bool true) ∧ Hid (w.grownBy w' none) := by
  obtain ⟨i0, hi0, hz0, hz1, hz2⟩ := info_parts info2
  have HTC : Hid (∀ (w2 : World) (g : Nat), Ils w2 (.slice (some ⟨g, 0, none⟩) 8 8) (List.replicate 8 0) → Calls Try.prog 7 #[.slice (some ⟨g, 0, none⟩) 8 8, .slice (some ⟨w2.heap.size, 0, none⟩) 1 1] (w2.alloc (.cells #[.bool false, .int .i64 1, .int .i64 0, .int .i64 0, .int .i64 1, .int .i64 0, .int .i64 0, .int .i64 0, .int .i64 0, .int .i64 0, .int .i64 0] 44)) fun r w' => ∃ la lc ao n c, r = .returned (.tuple #[.slice la 1 lc, .slice ao n c, .bool true]) ∧ Hid (TnsR w' (.slice la 1 lc) [⟨0, 0, [⟨0, 1, 0, 0, 0⟩]⟩]) ∧ Hid (w2.grownBy w' none)) := by
    intro w2 g hi
    have hg2 : w2.grownBy (w2.alloc (.cells #[.bool false, .int .i64 1, .int .i64 0, .int .i64 0, .int .i64 1, .int .i64 0, .int .i64 0, .int .i64 0, .int .i64 0, .int .i64 0, .int .i64 0] 44)) none := grown_alloc (grown_refl _ _) _
    refine (take_tns (some ⟨g, 0, none⟩) (some ⟨w2.heap.size, 0, none⟩) 8 1 (List.replicate 8 0) aliveS _ (hi.grown hg2) (.inl ⟨w2.heap.size, 0, 1, trivial, rfl, fun i p hp j u hu => ?_⟩) (by simp) (by simp [aliveS])).mono ?_
    · match i, hp with
      | 0, hp =>
        simp [aliveS] at hp
        subst hp
        rw [show 0 + 0 * 11 + j = j from by omega, cell_of (heap_alloc_new _ _), ← Array.getElem?_toList]
        exact hu
      | i + 1, hp => simp [aliveS] at hp
    · rintro r w' ⟨la, lc, ao, n, c, rfl, h1, h2, h3⟩
      rw [alive_run] at h1 ⊢
      exact ⟨la, lc, ao, n, c, rfl, h1, grown_trans hg2 h3.out⟩
  go_enter Try.func10, Try.ntmps10
  go_upto_region 2 with (first
    | (at_make; refine wpList_make_full _ rfl _ _ 22 rfl w.heap.size 2 i0 (.int .i64 0) 1 Try.underlying22 hi0 hz0 hz1 _ _ _ _ 8 rfl rfl (by rfl) (by rfl) (by rw [hz2]; omega) (by unfold maxLen; omega) (Nat.le_refl _) ?_; intro w2 hown2 hg2; have HI2 := Lib.hid (ils_noughts hown2); have HG2 := Lib.hid hg2; clear hown2 hg2)
    | (go_at_call 7; refine (HTC.out _ _ HI2.out).mono ?_; rintro ez w3 ⟨la, lc, ao, n, c, rfl, ht3, hg3⟩))
  have HG3 : Hid (w.grownBy w3 none) := grown_trans HG2.out hg3.out
  obtain ⟨b, off, ua, uc, rfl, c0, c1, c2, _⟩ := tns_at ht3.out (i := 0) rfl
  simp only [Nat.zero_mul, Nat.add_zero] at c0 c1 c2
  go_wp2_with fail
  go_ret
  exact ⟨rfl, HG3.out⟩
end Go.Proofs.Ytdnmimfichijgaa.KAlive
