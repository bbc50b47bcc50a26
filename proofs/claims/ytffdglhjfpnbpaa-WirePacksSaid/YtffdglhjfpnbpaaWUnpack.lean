/- Unpack, the program's. -/
import Derived.Test.YtffdglhjfpnbpaaWEvent
import Derived.Test.YtffdglhjfpnbpaaWTMod
namespace Go.Proofs.Ytffdglhjfpnbpaa.WUnpack
open Go Go.RowKit Go.Proofs.Ytffdglhjfpnbpaa.WMod Go.Proofs.Ytffdglhjfpnbpaa.WUMod Go.Proofs.Ytffdglhjfpnbpaa.WTMod Go.Proofs.Ytffdglhjfpnbpaa.Opn Go.Proofs.Ytffdglhjfpnbpaa.Hp Go.Proofs.Ytffdglhjfpnbpaa.Rd Go.Proofs.Ytffdglhjfpnbpaa.WWrong Go.Proofs.Ytffdglhjfpnbpaa.WWait Go.Proofs.Ytffdglhjfpnbpaa.WPack Go.Proofs.Ytffdglhjfpnbpaa.WLow Go.Proofs.Ytffdglhjfpnbpaa.WRWait Go.Proofs.Ytffdglhjfpnbpaa.WEvent
set_option linter.unusedVariables false
set_option linter.unusedSimpArgs false

theorem owns_frame {w w' : World} {B g : Nat} {e : TypeId} {sz : Nat} {v : Value} {n : Nat} {xs : List Value} (h : w.ownsRow B e sz v n xs) (hg : w.grownBy w' (some g)) (hB : g < B) : w'.ownsRow B e sz v n xs := by
  refine ⟨h.1, ?_⟩
  rcases h.2 with hn | ⟨b, cap, cur, hv, hb, hgg, rest⟩
  · exact .inl hn
  · exact .inr ⟨b, cap, cur, hv, hb, grown_row hg hgg (by omega), rest⟩

theorem own_low {w : World} {B : Nat} {e : TypeId} {sz : Nat} {v : Value} {n : Nat} {xs : List Value} (h : w.ownsRow B e sz v n xs) {b : Nat} (hb : v.ownBlock = some b) : B ≤ b := by
  rcases h.2 with ⟨rfl, _⟩ | ⟨b', cap, cur, rfl, hB, _⟩
  · cases hb
  · injection hb with hb
    subst hb
    exact hB

theorem app_row {w w' : World} {B k : Nat} {e : TypeId} {sz : Nat} {v : Value} {n : Nat} {xs : List Value} {o : Obj} (h : w.ownsRow B e sz v n xs) (hg : w.grownBy w' v.ownBlock) (hk : w.heap[k]? = some o) (hB : k < B) : w'.heap[k]? = some o := by
  rw [hg.block k (lt_of hk) (fun e => by have := own_low h e.symm; omega)]
  exact hk

theorem app_grown {w0 w w' : World} {B : Nat} {e : TypeId} {sz : Nat} {v : Value} {n : Nat} {xs : List Value} (h0 : w0.grownBy w none) (hB : w0.heap.size ≤ B) (h : w.ownsRow B e sz v n xs) (hg : w.grownBy w' v.ownBlock) : w0.grownBy w' none := by
  cases hv : v.ownBlock with
  | none => rw [hv] at hg; exact grown_trans h0 hg
  | some b => rw [hv] at hg; exact grown_from h0 hg (.inl (Nat.le_trans hB (own_low h hv)))

def evC (es : List Ev) : List Value := es.flatMap Ev.cells
theorem evC_len (es : List Ev) : (evC es).length = es.length * 5 := by
  induction es with
  | nil => rfl
  | cons e es ih => simp only [evC, List.flatMap_cons, List.length_append, List.length_cons] at *; rw [ih]; simp [Ev.cells]; omega
theorem evC_snoc (es : List Ev) (e : Ev) : evC (es ++ [e]) = evC es ++ e.cells := by simp [evC]

theorem evC_get (es : List Ev) (i : Nat) (e : Ev) (h : es[i]? = some e) (j : Nat) (hj : j < 5) : (evC es)[i * 5 + j]? = e.cells[j]? := by
  induction es generalizing i with
  | nil => simp at h
  | cons a es ih =>
    have hc : a.cells.length = 5 := rfl
    cases i with
    | zero =>
      simp only [List.getElem?_cons_zero, Option.some.injEq] at h
      subst h
      simp only [evC, List.flatMap_cons]
      rw [List.getElem?_append_left (by rw [hc]; omega)]
      congr 1
      omega
    | succ i =>
      simp only [List.getElem?_cons_succ] at h
      have := ih i h
      simp only [evC, List.flatMap_cons] at *
      rw [List.getElem?_append_right (by rw [hc]; omega), hc, ← this]
      congr 1
      omega

theorem evs_of_own {w : World} {B : Nat} {v : Value} {es : List Ev} (h : w.ownsRow B 36 5 v es.length (evC es)) (hm : ∀ e ∈ es, e.at_ ≤ 9223372036854775807) : ∃ ao cap, v = .slice ao es.length cap ∧ Evs w (.slice ao es.length cap) es := by
  rcases h.2 with ⟨rfl, hn⟩ | ⟨g, cap, cur, rfl, _, hgg, hc, hm1, hsz, ht⟩
  · exact ⟨none, 0, by rw [hn], .inr ⟨none, 0, by rw [hn], List.eq_nil_of_length_eq_zero hn⟩⟩
  · refine ⟨some ⟨g, 0, none⟩, cap, rfl, .inl ⟨g, 0, cap, rfl, fun i e he => ⟨e.cells, rfl, fun j u hu => ?_, rfl, hm e (List.mem_of_getElem? he)⟩⟩⟩
    have hj : j < 5 := by have := (List.getElem?_eq_some_iff.1 hu).1; simpa [Ev.cells] using this
    have hi : i < es.length := (List.getElem?_eq_some_iff.1 he).1
    have h1 := evC_get es i e he j hj
    rw [hu, ← ht, List.getElem?_take, if_pos (by omega), Array.getElem?_toList] at h1
    rw [Nat.zero_add, cell_of hgg]
    exact h1

/-- What Unpack answers. -/
def UnPost (R : Except (Int × Nat) (List Ev)) (w : World) (e : Ending) (w' : World) : Prop := Hid (w.grownBy w' none) ∧
  ((∃ c p, R = .error (c, p) ∧ e = .returned (.tuple #[.slice none 0 0, .agg #[.int .i64 c, .int .i64 (p : Nat)]])) ∨
   (∃ es ao cap, R = .ok es ∧ e = .returned (.tuple #[.slice ao es.length cap, .agg #[.int .i64 0, .int .i64 0]]) ∧ Hid (Evs w' (.slice ao es.length cap) es)))

def U (s : ByteArray) (p last st : Nat) (acc : List Ev) : Except (Int × Nat) (List Ev) := unpackP (bl s) (s.size + 1 - p) p last st acc

theorem U_end (s : ByteArray) (last st : Nat) (acc : List Ev) : U s s.size last st acc = .ok acc := by
  unfold U
  rw [show s.size + 1 - s.size = 0 + 1 from by omega]
  unfold unpackP
  rw [if_pos (by rw [bl_len]; omega)]

theorem U_on {s : ByteArray} {p : Nat} (hp : p < s.size) (last st : Nat) (acc : List Ev) : U s p last st acc = if acc.length = 4096 then .error (5, p)
    else match waitP (bl s) 4 0 p with
      | (q, none) => .error (2, q)
      | (q, some n) => match eventP (bl s) st q with
        | (q2, _, none) => .error (2, q2)
        | (q2, t, some (x, y)) => U s q2 (last + n) t (acc ++ [evOf last n t x y]) := by
  conv => lhs; unfold U
  obtain ⟨f, hf⟩ : ∃ f, s.size + 1 - p = f + 1 := ⟨s.size - p, by omega⟩
  rw [hf]
  unfold unpackP
  rw [if_neg (by rw [bl_len]; omega)]
  by_cases hm : acc.length = 4096
  · rw [if_pos hm, if_pos hm]
  rw [if_neg hm, if_neg hm]
  obtain ⟨⟨q, o⟩, hw⟩ : ∃ r, waitP (bl s) 4 0 p = r := ⟨_, rfl⟩
  rw [hw]
  cases o with
  | none => rfl
  | some n =>
    have k1 := waitP_le _ _ _ _ _ _ hw
    simp only
    obtain ⟨⟨q2, t, o2⟩, he⟩ : ∃ r, eventP (bl s) st q = r := ⟨_, rfl⟩
    rw [he]
    cases o2 with
    | none => rfl
    | some xy =>
      obtain ⟨x, y⟩ := xy
      have k2 := eventP_le he
      rw [bl_len] at k1 k2
      simp only
      exact unpackP_fuel (bl s) f (s.size + 1 - q2) q2 _ _ _ (by rw [bl_len]; omega) (by rw [bl_len]; omega)

theorem rat_al {w : World} {g : Nat} {s : ByteArray} {p st : Nat} (h : RAt w g s p st) (o : Obj) : RAt (w.alloc o) g s p st := rat_alloc h o

theorem info36 : (Try.prog.info? 36).map (fun i => (i.zero, i.size, i.bytes)) = some (some (.agg #[.int .i64 0, .int .i64 0, .int .i64 0, .int .i64 0, .int .i64 0]), 5, 40) := by kernel_rfl

theorem un_ok {R : Except (Int × Nat) (List Ev)} {w wr w' : World} {f g : Nat} {ao : Option Addr} {cap n : Nat} {acc : List Ev} (hx : R = .ok acc) (hn : acc.length = n) (hO : wr.ownsRow (g + 1) 36 5 (.slice ao n cap) n (evC acc))
    (hm : ∀ e ∈ acc, e.at_ ≤ 9223372036854775807) (hG : w.grownBy wr none) (hf : f < g) (hwf : w.heap.size ≤ f) (hw : wr.grownBy w' (some f)) : UnPost R w (.returned (.tuple #[.slice ao n cap, .agg #[.int .i64 0, .int .i64 0]])) w' := by
  subst hn
  obtain ⟨ao', cap', hv', he'⟩ := evs_of_own (owns_frame hO hw (by omega)) hm
  simp only [Value.slice.injEq, true_and] at hv'
  obtain ⟨rfl, rfl⟩ := hv'
  exact ⟨grown_from hG hw (.inl hwf), .inr ⟨acc, ao, cap, hx, rfl, he'⟩⟩

theorem un_bad {R : Except (Int × Nat) (List Ev)} {w wr w' : World} {f : Nat} {c : Int} {p : Nat} (hx : R = .error (c, p)) (hG : w.grownBy wr none) (hwf : w.heap.size ≤ f) (hw : wr.grownBy w' (some f)) :
    UnPost R w (.returned (.tuple #[.slice none 0 0, .agg #[.int .i64 c, .int .i64 p]])) w' := ⟨grown_from hG hw (.inl hwf), .inl ⟨c, p, hx, rfl⟩⟩

set_option maxHeartbeats 4000000 in
set_option maxRecDepth 100000 in
theorem unpack_calls (s : ByteArray) (w : World) (hs : s.size ≤ 140737488355328) : Calls Try.prog 11 #[.string s] w fun e w' => UnPost (unpack (bl s)) w e w' := by
  obtain ⟨R, hR⟩ : ∃ R, unpack (bl s) = R := ⟨_, rfl⟩
  have HR0 : Hid (R = U s 0 0 0 []) := by unfold Hid U; rw [← hR]; unfold unpack; rw [bl_len]; rfl
  rw [hR]
  obtain ⟨i0, hi, hz0, hz1, hz2⟩ := info_parts info36
  clear hR
  go_enter Try.func11, Try.ntmps11
  go_wp2_with fail
  obtain ⟨f, hf⟩ : ∃ f, w.heap.size = f := ⟨_, rfl⟩
  obtain ⟨w1, hw1⟩ : ∃ w1, (w.alloc (.cells #[.int .i64 0, .int .i64 0] 30)).alloc (.cells #[.string s, .int .i64 0, .int .i64 0] 45) = w1 := ⟨_, rfl⟩
  have HF1 : Hid (w1.heap[f]? = some (.cells #[.int .i64 0, .int .i64 0] 30 (0, 0))) := by
    unfold Hid
    rw [← hw1, Below.heap_alloc _ _ _ (by simp; omega), ← hf]
    exact heap_alloc_new _ _
  have HA1 : Hid (RAt w1 (f + 1) s 0 0) := by
    unfold Hid RAt
    rw [← hw1, ← hf]
    have := heap_alloc_new (w.alloc (.cells #[.int .i64 0, .int .i64 0] 30)) (.cells #[.string s, .int .i64 0, .int .i64 0] 45)
    rw [show (w.alloc (.cells #[.int .i64 0, .int .i64 0] 30)).heap.size = w.heap.size + 1 from by simp] at this
    exact this
  have HG1 : Hid (w.grownBy w1 none) := by rw [← hw1]; exact grown_alloc (grown_alloc (grown_refl _ _) _) _
  have HB1 : Hid (f + 1 + 1 ≤ w1.heap.size) := by unfold Hid; rw [← hw1]; simp; omega
  obtain ⟨g, hg⟩ : ∃ g, f + 1 = g := ⟨_, rfl⟩
  have hgf : f < g := by omega
  have hwf : w.heap.size ≤ f := by omega
  rw [hg] at HA1 HB1
  simp only [hf, hw1, hg]
  clear hw1 hf hg
  go_loopw [5, 6] (fun v l wr => ∃ (p last st : Nat) (acc : List Ev), p ≤ s.size ∧ l = .int .i64 (last : Int) ∧ Hid (stOk st) ∧ acc.length ≤ 4096 ∧ last ≤ acc.length * 268435456 ∧ Hid (∀ e ∈ acc, e.at_ ≤ 9223372036854775807) ∧ Hid (R = U s p last st acc) ∧ Hid (RAt wr g s p st) ∧
    Hid (wr.heap[f]? = some (.cells #[.int .i64 0, .int .i64 0] 30 (0, 0))) ∧ Hid (wr.ownsRow (g + 1) 36 5 v acc.length (evC acc)) ∧ Hid (w.grownBy wr none) ∧ Hid (g + 1 ≤ wr.heap.size)) (fun _ _ wr => s.size - (match wr.cell? ⟨g, 1, none⟩ with | some v => (intOf v).toNat | none => 0))
  case atStart => exact ⟨0, 0, 0, [], Nat.zero_le _, rfl, .inl rfl, by simp, by simp, (fun e h => by cases h), HR0, HA1, HF1, World.ownsRow_nil _ _ _ _, HG1, HB1⟩
  case round =>
    clear HR0 HA1 HF1 HG1 HB1
    obtain ⟨p, last, st, acc, hp, rfl, HSK, hacc, hlast, HM, HR, HA, HF, HO, HG, HB⟩ := hrel
    have hst : st < 256 := by rcases HSK.out with h | h <;> omega
    obtain ⟨n, hn⟩ : ∃ n, acc.length = n := ⟨_, rfl⟩
    have HN := Lib.hid hn
    obtain ⟨ao, cap, hv⟩ : ∃ ao cap, u5 = .slice ao n cap := by
      rw [hn] at HO
      rcases HO.out.2 with ⟨rfl, rfl⟩ | ⟨b, cap, _, rfl, _⟩
      · exact ⟨_, _, rfl⟩
      · exact ⟨_, _, rfl⟩
    subst hv
    rw [hn] at hacc hlast HO
    clear hn
    have c0 : wr.cell? ⟨g, 0, none⟩ = some (.string s) := cell_of HA.out 0
    have c1 : wr.cell? ⟨g, 1, none⟩ = some (.int .i64 p) := cell_of HA.out 1
    have q0 : wr.cell? ⟨f, 0, none⟩ = some (.int .i64 0) := cell_of HF.out 0
    have q1 : wr.cell? ⟨f, 1, none⟩ = some (.int .i64 0) := cell_of HF.out 1
    have qf0 : wr.frozen? ⟨f, 0, none⟩ = false := free_of HF.out 0
    have qf1 : wr.frozen? ⟨f, 1, none⟩ = false := free_of HF.out 1
    by_cases hps : p = s.size
    · subst hps
      have HX : Hid (R = .ok acc) := HR.out.trans (U_end _ _ _ _)
      go_wp2_with fail
      refine bodyPost_ret (v := .tuple #[.slice ao n cap, .agg #[.int .i64 0, .int .i64 0]]) (by simp [results, Try.results11, go_sem, q0, q1]) rfl ?_
      exact un_ok HX.out HN.out HO.out HM.out HG.out hgf hwf (grown_set (p := ⟨f, 1, none⟩) (grown_set (p := ⟨f, 0, none⟩) (grown_refl _ _) (.inl rfl) _) (.inl rfl) _)
    have hplt : p < s.size := by omega
    by_cases hn4 : n = 4096
    · have HX : Hid (R = .error (5, p)) := by unfold Hid; rw [HR.out, U_on hplt, HN.out, if_pos hn4]
      subst hn4
      clear HR HO
      go_wp2_with fail
      go_region
      all_goals
        go_wp2_with fail
        refine bodyPost_ret (v := .tuple #[.slice none 0 0, .agg #[.int .i64 5, .int .i64 (p : Nat)]]) (by simp [results, Try.results11, go_sem, q0, q1]) rfl ?_
        exact un_bad HX.out HG.out hwf (grown_drew (grown_set (p := ⟨f, 1, none⟩) (grown_set (p := ⟨f, 0, none⟩) (grown_refl _ _) (.inl rfl) _) (.inl rfl) _))
    have hn5 : ((n : Int) == 4096) = false := by rw [beq_eq_false_iff_ne]; omega
    have hu := HR.out.trans (U_on hplt last st acc)
    rw [HN.out, if_neg hn4] at hu
    have W1 := Lib.hid (rwait_calls g s p st wr HA.out hp hs)
    obtain ⟨⟨q, o⟩, hw⟩ : ∃ r, waitP (bl s) 4 0 p = r := ⟨_, rfl⟩
    rw [hw] at W1 hu
    simp only at W1 hu
    cases o with
    | none =>
      have HX := Lib.hid hu
      clear HR HO hu hw
      simp only [optV, Option.getD_none, Option.isSome_none] at W1
      go_upto_region 8 with (go_at_call 19; refine (W1.out).mono ?_; rintro e w2 ⟨rfl, HA2, HG2⟩)
      clear c0 c1 q0 q1 qf0 qf1
      have HF2 := Lib.hid (grown_row HG2.out HF.out (by omega))
      have hg2 : g < w2.heap.size := lt_of HA2.out
      have hf2 : f < w2.heap.size := by omega
      have c1 : w2.cell? ⟨g, 1, none⟩ = some (.int .i64 q) := cell_of HA2.out 1
      have q0 : w2.cell? ⟨f, 0, none⟩ = some (.int .i64 0) := cell_of HF2.out 0
      have q1 : w2.cell? ⟨f, 1, none⟩ = some (.int .i64 0) := cell_of HF2.out 1
      have qf0 : w2.frozen? ⟨f, 0, none⟩ = false := free_of HF2.out 0
      have qf1 : w2.frozen? ⟨f, 1, none⟩ = false := free_of HF2.out 1
      go_wp2_with fail
      go_region
      all_goals
        go_wp2_with fail
        refine bodyPost_ret (v := .tuple #[.slice none 0 0, .agg #[.int .i64 2, .int .i64 (q : Nat)]]) (by simp [results, Try.results11, go_sem, q0, q1, hf2]) rfl ?_
        exact un_bad HX.out (grown_from HG.out HG2.out (.inl (by omega))) hwf (grown_drew (grown_alloc (grown_set (p := ⟨f, 1, none⟩) (grown_set (p := ⟨f, 0, none⟩) (grown_refl _ _) (.inl rfl) _) (.inl rfl) _) _))
    | some k =>
      simp only [optV, Option.getD_some, Option.isSome_some] at W1
      have hkw := waitP_le _ _ _ _ _ _ hw
      rw [bl_len] at hkw
      have hk28 := (waitP_back (bl_lt s) hw).1
      obtain ⟨hpq, hqs⟩ := hkw
      clear HR hw
      go_upto_region 10 with (go_at_call 19; refine (W1.out).mono ?_; rintro e w2 ⟨rfl, HA2, HG2⟩)
      clear c0 c1 q0 q1 qf0 qf1
      have HF2 := Lib.hid (grown_row HG2.out HF.out (by omega))
      have hg2 : g < w2.heap.size := lt_of HA2.out
      have hf2 : f < w2.heap.size := by omega
      have E1 := Lib.hid (event_calls g s q st (w2.alloc (.cells #[.int .i64 0, .int .i64 0, .int .i64 0, .int .i64 0, .int .i64 0] 36)) (rat_al HA2.out _) (by omega) hs hst)
      have HH2 : Hid ((w2.alloc (.cells #[.int .i64 0, .int .i64 0, .int .i64 0, .int .i64 0, .int .i64 0] 36)).heap[w2.heap.size]? = some (.cells #[.int .i64 0, .int .i64 0, .int .i64 0, .int .i64 0, .int .i64 0] 36 (0, 0))) := heap_alloc_new _ _
      have HF3 : Hid ((w2.alloc (.cells #[.int .i64 0, .int .i64 0, .int .i64 0, .int .i64 0, .int .i64 0] 36)).heap[f]? = some (.cells #[.int .i64 0, .int .i64 0] 30 (0, 0))) := by unfold Hid; rw [Below.heap_alloc _ _ _ hf2]; exact HF2.out
      obtain ⟨h, hh⟩ : ∃ h, w2.heap.size = h := ⟨_, rfl⟩
      have HGW : Hid (wr.grownBy (w2.alloc (.cells #[.int .i64 0, .int .i64 0, .int .i64 0, .int .i64 0, .int .i64 0] 36)) (some g)) := grown_alloc HG2.out _
      have hhw : wr.heap.size ≤ h := by rw [← hh]; exact HG2.out.size
      obtain ⟨w3, hw3⟩ : ∃ w3, w2.alloc (.cells #[.int .i64 0, .int .i64 0, .int .i64 0, .int .i64 0, .int .i64 0] 36) = w3 := ⟨_, rfl⟩
      rw [hh] at HH2 hg2 hf2
      rw [hw3] at E1 HH2 HF3 HGW
      simp only [hh, hw3]
      clear hh hw3 HA2 HG2 HF2
      obtain ⟨⟨q2, t, o2⟩, he⟩ : ∃ r, eventP (bl s) st q = r := ⟨_, rfl⟩
      rw [he] at E1 hu
      cases o2 with
      | none =>
        have HX := Lib.hid hu
        clear hu he
        go_upto_region 12 with fail
        refine (E1.out).mono ?_
        rintro e w4 ⟨⟨k', c', a', b', rfl, hev⟩, HA4, HG4⟩
        clear hev
        have HF4 := Lib.hid (grown_row HG4.out HF3.out (by omega))
        have HH4 := Lib.hid (grown_row HG4.out HH2.out (by omega))
        have hg4 : g < w4.heap.size := lt_of HA4.out
        have hf4 : f < w4.heap.size := by omega
        have c1 : w4.cell? ⟨g, 1, none⟩ = some (.int .i64 q2) := cell_of HA4.out 1
        have q0 : w4.cell? ⟨f, 0, none⟩ = some (.int .i64 0) := cell_of HF4.out 0
        have qf0 : w4.frozen? ⟨f, 0, none⟩ = false := free_of HF4.out 0
        have q1 : w4.cell? ⟨f, 1, none⟩ = some (.int .i64 0) := cell_of HF4.out 1
        have qf1 : w4.frozen? ⟨f, 1, none⟩ = false := free_of HF4.out 1
        have h0 : w4.cell? ⟨h, 0, none⟩ = some (.int .i64 0) := cell_of HH4.out 0
        have hf0 : w4.frozen? ⟨h, 0, none⟩ = false := free_of HH4.out 0
        have h1 : w4.cell? ⟨h, 1, none⟩ = some (.int .i64 0) := cell_of HH4.out 1
        have hf1 : w4.frozen? ⟨h, 1, none⟩ = false := free_of HH4.out 1
        have h2 : w4.cell? ⟨h, 2, none⟩ = some (.int .i64 0) := cell_of HH4.out 2
        have hf2 : w4.frozen? ⟨h, 2, none⟩ = false := free_of HH4.out 2
        have h3 : w4.cell? ⟨h, 3, none⟩ = some (.int .i64 0) := cell_of HH4.out 3
        have hf3 : w4.frozen? ⟨h, 3, none⟩ = false := free_of HH4.out 3
        have h4 : w4.cell? ⟨h, 4, none⟩ = some (.int .i64 0) := cell_of HH4.out 4
        have hf4 : w4.frozen? ⟨h, 4, none⟩ = false := free_of HH4.out 4
        go_upto_region 12 with fail
        go_region
        all_goals
          go_wp2_with fail
          refine bodyPost_ret (v := .tuple #[.slice none 0 0, .agg #[.int .i64 2, .int .i64 (q2 : Nat)]]) (by simp [results, Try.results11, go_sem, q0, q1]) rfl ?_
          refine ⟨?_, .inl ⟨_, _, HX.out, rfl⟩⟩
          unfold Hid
          refine grown_drew ?_
          (with_reducible repeat refine grown_set ?_ (.inr (by dsimp only; omega)) _)
          exact grown_from (grown_from HG.out HGW.out (.inl (by omega))) HG4.out (.inl (by omega))
      | some xy =>
        obtain ⟨x, y⟩ := xy
        have hke := eventP_le he
        rw [bl_len] at hke
        obtain ⟨hqq, hq2s⟩ := hke
        have hht : t < 256 ∧ 128 ≤ t := by
          have := (eventP_back (bl_lt s) HSK.out he).1
          omega
        obtain ⟨ht256, ht128⟩ := hht
        have hsk2 := (eventP_back (bl_lt s) HSK.out he).1
        obtain ⟨L, hL⟩ : ∃ L, last + k = L := ⟨_, rfl⟩
        have hL2 : L ≤ (n + 1) * 268435456 := by omega
        have hL3 : L ≤ 1099780063232 := by omega
        obtain ⟨tk, htk⟩ : ∃ tk, t / 16 = tk := ⟨_, rfl⟩
        obtain ⟨tc, htc⟩ : ∃ tc, t % 16 = tc := ⟨_, rfl⟩
        have HC : Hid ((evOf last k t x y).cells = [.int .i64 L, .int .i64 tk, .int .i64 tc, .int .i64 x, .int .i64 y]) := by
          unfold Hid evOf Ev.cells
          rw [hL, htk, htc]
        have HX : Hid (R = U s q2 L t (acc ++ [evOf last k t x y])) := by rw [hL] at hu; exact hu
        have HMM : Hid (∀ e ∈ acc ++ [evOf last k t x y], e.at_ ≤ 9223372036854775807) := by
          intro e he
          rcases List.mem_append.1 he with he | he
          · exact HM.out e he
          · simp only [List.mem_singleton] at he
            subst he
            unfold evOf
            simp only
            omega
        have hLi : (last : Int) + (k : Int) = (L : Int) := by omega
        have HSK2 : Hid (stOk t) := .inr hsk2
        clear hu he hL hsk2
        go_upto_region 13 with fail
        refine (E1.out).mono ?_
        rintro e w4 ⟨⟨k', c', a', b', rfl, hev⟩, HA4, HG4⟩
        obtain ⟨rfl, rfl, rfl, rfl⟩ := hev x y rfl
        simp only [htk, htc]
        clear hev htk htc
        have HF4 := Lib.hid (grown_row HG4.out HF3.out (by omega))
        have HH4 := Lib.hid (grown_row HG4.out HH2.out (by omega))
        have h0 : w4.cell? ⟨h, 0, none⟩ = some (.int .i64 0) := cell_of HH4.out 0
        have h1 : w4.cell? ⟨h, 1, none⟩ = some (.int .i64 0) := cell_of HH4.out 1
        have h2 : w4.cell? ⟨h, 2, none⟩ = some (.int .i64 0) := cell_of HH4.out 2
        have h3 : w4.cell? ⟨h, 3, none⟩ = some (.int .i64 0) := cell_of HH4.out 3
        have h4 : w4.cell? ⟨h, 4, none⟩ = some (.int .i64 0) := cell_of HH4.out 4
        have hf0 : w4.frozen? ⟨h, 0, none⟩ = false := free_of HH4.out 0
        have hf1 : w4.frozen? ⟨h, 1, none⟩ = false := free_of HH4.out 1
        have hf2 : w4.frozen? ⟨h, 2, none⟩ = false := free_of HH4.out 2
        have hf3 : w4.frozen? ⟨h, 3, none⟩ = false := free_of HH4.out 3
        have hf4 : w4.frozen? ⟨h, 4, none⟩ = false := free_of HH4.out 4
        go_upto_region 15 with fail
        obtain ⟨w5, hw5⟩ : ∃ w5, ((((((w4.setCell ⟨h, 0, none⟩ (.int .i64 0)).setCell ⟨h, 1, none⟩ (.int .i64 (tk : Int))).setCell ⟨h, 2, none⟩ (.int .i64 (tc : Int))).setCell ⟨h, 3, none⟩ (.int .i64 (x : Int))).setCell ⟨h, 4, none⟩ (.int .i64 (y : Int))).setCell ⟨h, 0, none⟩ (.int .i64 (L : Int))) = w5 := ⟨_, rfl⟩
        have e0 : w5.cell? ⟨h, 0, none⟩ = some (.int .i64 L) := by rw [← hw5]; simp [go_sem, h0, h1, h2, h3, h4]
        have e1 : w5.cell? ⟨h, 1, none⟩ = some (.int .i64 tk) := by rw [← hw5]; simp [go_sem, h0, h1, h2, h3, h4]
        have e2 : w5.cell? ⟨h, 2, none⟩ = some (.int .i64 tc) := by rw [← hw5]; simp [go_sem, h0, h1, h2, h3, h4]
        have e3 : w5.cell? ⟨h, 3, none⟩ = some (.int .i64 x) := by rw [← hw5]; simp [go_sem, h0, h1, h2, h3, h4]
        have e4 : w5.cell? ⟨h, 4, none⟩ = some (.int .i64 y) := by rw [← hw5]; simp [go_sem, h0, h1, h2, h3, h4]
        have HW : Hid (wr.grownBy w5 (some g)) := by
          unfold Hid
          rw [← hw5]
          (with_reducible repeat refine grown_set ?_ (.inr (by dsimp only; omega)) _)
          exact grown_trans HGW.out HG4.out
        have HA5 : Hid (RAt w5 g s q2 t) := by
          unfold Hid
          rw [← hw5]
          (with_reducible repeat refine rat_other ?_ (by dsimp only; omega) _)
          exact HA4.out
        have HO5 := Lib.hid (owns_frame HO.out HW.out (by omega))
        have HF5 := Lib.hid (grown_row HW.out HF.out (by omega))
        have HG5 : Hid (w.grownBy w5 none) := grown_from HG.out HW.out (.inl (by omega))
        have HB5 : Hid (g + 1 ≤ w5.heap.size) := Nat.le_trans HB.out HW.out.size
        rw [hw5]
        clear hw5 HA4 HG4 HF4 HH4 h0 h1 h2 h3 h4 hf0 hf1 hf2 hf3 hf4 HO HF HW HB
        go_wp2_with (at_builtin; refine wpList_append_own _ rfl _ _ 22 rfl (g + 1) 36 i0 _ 5 40 Try.underlying22 hi hz0 hz1 hz2 rfl (by decide) _ n (evC acc) rfl (HO5.out.alloc _) ⟨w5.heap.size, 0, none⟩ 1 1 [.int .i64 L, .int .i64 tk, .int .i64 tc, .int .i64 x, .int .i64 y] rfl rfl ?c1 ?c2 ?c3 ?c4 ?c5 ?_)
        case c1 =>
          intro j u hj
          rw [Addr.add_lit, cell_of (heap_alloc_new _ _)]
          simpa using hj
        case c2 => intro u hu; simp at hu; rcases hu with rfl | rfl | rfl | rfl | rfl <;> rfl
        case c3 => unfold maxLen; omega
        case c4 => omega
        case c5 => have := HB5.out; simp; omega
        intro v' w6 hown6 hg6 _
        have HO6 : Hid (w6.ownsRow (g + 1) 36 5 v' (acc ++ [evOf last k t x y]).length (evC (acc ++ [evOf last k t x y]))) := by
          unfold Hid
          rw [evC_snoc, HC.out, List.length_append, HN.out]
          exact hown6
        have HOA := HO5.out.alloc (.cells #[.int .i64 L, .int .i64 tk, .int .i64 tc, .int .i64 x, .int .i64 y] 36)
        have HA6 : Hid (RAt w6 g s q2 t) := app_row HOA hg6 (rat_al HA5.out _) (by omega)
        have HF6 : Hid (w6.heap[f]? = some (.cells #[.int .i64 0, .int .i64 0] 30 (0, 0))) := app_row HOA hg6 (row_alloc HF5.out _) (by omega)
        have HG6 : Hid (w.grownBy w6 none) := app_grown (grown_alloc HG5.out _) (by omega) HOA hg6
        have HB6 : Hid (g + 1 ≤ w6.heap.size) := Nat.le_trans HB5.out (Nat.le_trans (by simp) hg6.size)
        have HNL : Hid ((acc ++ [evOf last k t x y]).length = n + 1) := by unfold Hid; rw [List.length_append, HN.out]; rfl
        have cm : w6.cell? ⟨g, 1, none⟩ = some (.int .i64 q2) := cell_of HA6.out 1
        clear hown6 hg6 HOA
        go_wp2_with fail
        go_roundw
        case rel => exact ⟨q2, L, t, acc ++ [evOf last k t x y], hq2s, rfl, HSK2, by rw [HNL.out]; omega, by rw [HNL.out]; omega, HMM, HX, HA6, HF6, HO6, HG6, HB6⟩
        case measure =>
          have cr : wr.cell? ⟨g, 1, none⟩ = some (.int .i64 p) := cell_of HA.out 1
          simp only [cm, cr, intOf, Int.toNat_natCast]
          omega

end Go.Proofs.Ytffdglhjfpnbpaa.WUnpack
