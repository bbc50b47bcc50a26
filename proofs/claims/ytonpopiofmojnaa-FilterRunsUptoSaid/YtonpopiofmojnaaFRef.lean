/- What the reference's Run does: each sample from the four ahead of it. -/
import Derived.Test.YtonpopiofmojnaaFAlive
import Derived.Outline
namespace Go.Proofs.Ytonpopiofmojnaa.FRef
open Go Go.RowKit Go.Proofs.Ytonpopiofmojnaa.Fl Go.Proofs.Ytonpopiofmojnaa.Fw Go.Proofs.Ytonpopiofmojnaa.Hp Go.Proofs.Ytonpopiofmojnaa.FRun Go.Proofs.Ytonpopiofmojnaa.FNew Go.Proofs.Ytonpopiofmojnaa.Rd Go.Proofs.Ytonpopiofmojnaa.FStrain Go.Proofs.Ytonpopiofmojnaa.FAlive
set_option linter.unusedVariables false

/-- Number i of a list; 0 ahead of it. -/
def bk (l : List Nat) (i : Int) : Nat := if i < 0 then 0 else l[i.toNat]?.getD 0

theorem bk_take {l : List Nat} {k : Nat} {i : Int} (h : i < k) : bk (l.take k) i = bk l i := by
  unfold bk
  split
  · rfl
  · rw [List.getElem?_take, if_pos (by omega)]

theorem bk_last {l : List Nat} {k x : Nat} (h : l.length = k) : bk (l ++ [x]) ((k : Int) + 1 - 1) = x := by
  unfold bk
  rw [if_neg (by omega), show ((k : Int) + 1 - 1).toNat = k from by omega, List.getElem?_append_right (by omega), h, Nat.sub_self]
  rfl

theorem bk_prev {l : List Nat} {k x : Nat} (h : l.length = k) : bk (l ++ [x]) ((k : Int) + 1 - 2) = bk l ((k : Int) - 1) := by
  unfold bk
  by_cases hk : k = 0
  · subst hk; rfl
  · rw [if_neg (by omega), if_neg (by omega), show ((k : Int) + 1 - 2).toNat = k - 1 from by omega, show ((k : Int) - 1).toNat = k - 1 from by omega, List.getElem?_append_left (by omega)]

/-- The filter's memory is the four ahead. -/
theorem fin_back (c : Co) (xs : List Nat) : ∀ k, k ≤ xs.length → fin c rest0 (xs.take k) = ⟨cn (bk xs ((k : Int) - 1)), cn (bk xs ((k : Int) - 2)), bk (outs c rest0 (xs.take k)) ((k : Int) - 1), bk (outs c rest0 (xs.take k)) ((k : Int) - 2)⟩
  | 0, _ => by
    simp only [List.take_zero, fin, outs, bk]
    rw [if_pos (by decide), if_pos (by decide), if_pos (by decide), if_pos (by decide), cn_zero]
    rfl
  | k + 1, h => by
    have ih := fin_back c xs k (by omega)
    have hx : xs[k]? = some (xs[k]'(by omega)) := List.getElem?_eq_getElem (by omega)
    have hl : (outs c rest0 (xs.take k)).length = k := by rw [outs_length, List.length_take]; omega
    have e1 : bk xs (((k + 1 : Nat) : Int) - 1) = xs[k]'(by omega) := by
      unfold bk
      rw [if_neg (by omega), show (((k + 1 : Nat) : Int) - 1).toNat = k from by omega, hx]
      rfl
    have e2 : (((k + 1 : Nat) : Int) - 2) = (k : Int) - 1 := by omega
    rw [take_snoc hx, fin_append, ih, outs_append, e1, e2]
    simp only [fin, nxt, outs]
    have e3 : (((k + 1 : Nat) : Int) - 1) = (k : Int) + 1 - 1 := by omega
    have e5 : (k : Int) + 1 - 2 = (k : Int) - 1 := by omega
    have e4 : ∀ x, bk (outs c rest0 (xs.take k) ++ [x]) ((k : Int) - 1) = bk (outs c rest0 (xs.take k)) ((k : Int) - 1) := fun x => by rw [← e5, bk_prev hl, e5]
    rw [e3, bk_last hl, e4, ← ih]

set_option maxHeartbeats 400000 in
/-- back, of whatever slice. -/
theorem back_calls (ao : Option Addr) (len cap : Nat) (l : List Nat) (i : Int) (w : World) (hl : l.length = len) (hi : i < len) (hb : len < 9223372036854775808) (hin : In w ao l) :
    Calls Try.prog 17 #[.slice ao len cap, .int .i64 i] w fun e w' => e = .returned (.float .f64 (bk l i)) ∧ w = w' := by
  by_cases h : i < 0
  · have := back_neg (.slice ao len cap) i w h
    unfold bk
    rwa [if_pos h]
  · obtain ⟨n, rfl⟩ := Int.eq_ofNat_of_zero_le (show 0 ≤ i by omega)
    have hx : l[n]? = some (l[n]'(by omega)) := List.getElem?_eq_getElem (by omega)
    obtain ⟨b, off, rfl, hc⟩ := hin n _ hx
    have := back_at b off len cap _ n w (by omega) hb hc
    unfold bk
    rw [if_neg (by omega), Int.toNat_natCast, hx]
    exact this

theorem sum_up {c : Co} {x1 x2 y1 y2 x r25 r32 r39 r46 r53 r56 r59 r62 r65 : Nat} (h25 : cn r25 = fo .mul c.b0 x) (h32 : cn r32 = fo .mul c.b1 x1) (h39 : cn r39 = fo .mul c.b2 x2) (h46 : cn r46 = fo .mul c.a1 y1) (h53 : cn r53 = fo .mul c.a2 y2)
    (h56 : cn r56 = fo .add r25 r32) (h59 : cn r59 = fo .add r56 r39) (h62 : cn r62 = fo .sub r59 r46) (h65 : cn r65 = fo .sub r62 r53) : cn r65 = out c ⟨cn x1, cn x2, cn y1, cn y2⟩ x := by
  unfold fo at *
  unfold out
  simp only at *
  rw [h65]
  refine fsub_eq ?_ ?_
  · rw [h62, cn_fsub]
    refine fsub_eq ?_ ?_
    · rw [h59, cn_fadd]
      refine fadd_eq ?_ ?_
      · rw [h56, cn_fadd]
        refine fadd_eq ?_ ?_
        · rw [h25, cn_fmul]
        · rw [h32, cn_fmul]; exact fmul_eq rfl (cn_cn _).symm
      · rw [h39, cn_fmul]; exact fmul_eq rfl (cn_cn _).symm
    · rw [h46, cn_fmul]; exact fmul_eq rfl (cn_cn _).symm
  · rw [h53, cn_fmul]; exact fmul_eq rfl (cn_cn _).symm

/-- What the reference's Run answers. -/
def RefRan (w : World) (c : Co) (xs : List Nat) (e : Ending) (w' : World) : Prop :=
  ∃ (a : Option Addr) (cap : Nat) (ys : List Nat), e = .returned (.slice a xs.length cap) ∧ ys.length = xs.length ∧ In w' a ys ∧ ys.map cn = outs c rest0 xs ∧ w.grownBy w' none

set_option maxHeartbeats 2000000 in
set_option maxRecDepth 100000 in
theorem ref_walk (c : Co) (ao : Option Addr) (len cap : Nat) (xs : List Nat) (w : World) (hlen : xs.length = len) (hl : len * 8 ≤ 140737488355328) (hin : In w ao xs) :
    Calls Try.prog 10 #[.agg #[.float .f64 c.b0, .float .f64 c.b1, .float .f64 c.b2, .float .f64 c.a1, .float .f64 c.a2], .slice ao len cap] w fun e w' => RefRan w c xs e w' := by
  obtain ⟨i0, hi, hz0, hz1, hz2⟩ := info_parts info22
  have HI := Lib.hid hin
  have HL := Lib.hid hlen
  clear hin hlen
  go_enter Try.func10, Try.ntmps10
  go_wp2_with fail
  go_loopw [5, 16] (fun v i wr => ∃ (k : Nat) (ys : List Nat), k ≤ len ∧ i = .int .i64 k ∧ Hid (ys.length = k) ∧ Hid (wr.ownsRow (w.heap.size + 1) 22 1 v ys.length (ys.map (Value.float .f64))) ∧ Hid (ys.map cn = outs c rest0 (xs.take k)) ∧ Hid (Box wr w.heap.size c) ∧ Hid (w.grownBy wr none)) (fun _ i _ => len - (intOf i).toNat)
  case atStart => exact ⟨0, [], Nat.zero_le _, rfl, rfl, by
    have := World.ownsRow_made (base := w.heap.size + 1) (e := 22) (size := 1) (w.alloc (.cells #[.float .f64 c.b0, .float .f64 c.b1, .float .f64 c.b2, .float .f64 c.a1, .float .f64 c.a2] 24)) #[] 0 (by simp) (Nat.zero_le _) rfl
    unfold Hid; simpa using this, rfl, Box.grown (heap_alloc_new _ _) (grown_alloc (grown_refl _ _) _), grown_alloc (grown_alloc (grown_refl _ _) _) _⟩
  case round =>
    obtain ⟨k, ys, hk, rfl, HYL, HO, HY, HB, HG⟩ := hrel
    by_cases hlt : k < len
    · obtain ⟨x, hxk⟩ : ∃ x, xs[k]? = some x := ⟨xs[k]'(by rw [HL.out]; omega), List.getElem?_eq_getElem (by rw [HL.out]; omega)⟩
      obtain ⟨b, off, rfl, hx0⟩ := HI.out k x hxk
      have hx : wr.cell? ⟨b, off + k, none⟩ = some (.float .f64 x) := HG.out.cell hx0 (by simp)
      have HX := Lib.hid hxk
      have HIW : Hid (In wr (some ⟨b, off, none⟩) xs) := HI.out.grown HG.out
      obtain ⟨a5, cap5, hu5, hi5⟩ := fls_in (owns_sl (R := fun _ u x => u = .float .f64 x) (xs := ys) HO.out (by simp) (fun i u x h1 h2 => by rw [List.getElem?_map, h2] at h1; simpa using h1.symm))
      rw [HYL.out] at hu5
      subst hu5
      have HI5 := Lib.hid hi5
      obtain ⟨f0, f1, f2, f3, f4⟩ := box_facts HB.out
      have HOA : Hid (∀ (o : Obj) (N : Nat), ((wr.alloc o).drewN N).ownsRow (w.heap.size + 1) 22 1 (.slice a5 k cap5) ys.length (ys.map (Value.float .f64))) := fun o N => HO.out.alloc o
      have hws : w.heap.size ≤ wr.heap.size := HG.out.size
      have hwb : w.heap.size + 1 ≤ wr.heap.size := lt_of HB.out
      clear hx0 hxk hi5
      go_wp2_with fail
      refine Loose.wp_region_loose (fun _ => none) (by kernel_rfl) (by kernel_rfl) ?_
      refine Loose.wpL_want rfl ?_; intro K hK; refine Loose.of_quiet rfl ?_; go_big_quiet_op; go_big_quiet_on
      refine Loose.wpL_want rfl ?_; intro K hK; refine Loose.of_quiet rfl ?_; go_big_quiet_op; go_big_quiet_on
      refine Loose.wpL_want rfl ?_; intro K hK; refine Loose.of_quiet rfl ?_; go_big_quiet_op; go_big_quiet_on
      refine Loose.wpL_want rfl ?_; intro K hK; refine Loose.of_quiet rfl ?_; go_big_quiet_op; go_big_quiet_on
      refine Loose.wpL_want rfl ?_; intro K hK; refine Loose.of_quiet rfl ?_; go_big_quiet_op; go_big_quiet_on
      refine Loose.wpL_want rfl ?_; intro K hK; refine Loose.of_quiet rfl ?_; go_big_quiet_op; go_big_quiet_on
      refine Loose.wpL_want rfl ?_; intro K hK; refine Fw.loose_farith .mul (.inr (.inr rfl)) _ _ _ _ rfl rfl rfl ?_; intro r25 h; have H25 := Lib.hid h; clear h; go_simp; go_big_quiet_on
      refine Loose.wpL_want rfl ?_; intro K hK; refine Loose.of_quiet rfl ?_; go_big_quiet_op; go_big_quiet_on
      refine Loose.wpL_nil ?_
      rintro _ ⟨nq5, rfl⟩
      go_wp2_with fail
      refine Loose.wp_region_loose (fun j => if j = 5 then some (.float .f64 (bk xs ((k : Int) - 1))) else none) (by kernel_rfl) (by kernel_rfl) ?_
      refine Loose.wpL_want rfl ?_; intro K hK; refine Loose.of_quiet rfl ?_; go_big_quiet_op; go_big_quiet_on
      refine Loose.wpL_want rfl ?_; intro K hK; refine Loose.of_quiet rfl ?_; go_big_quiet_op; go_big_quiet_on
      refine Loose.wpL_want rfl ?_; intro K hK; refine Loose.of_quiet rfl ?_; go_big_quiet_op; go_big_quiet_on
      refine Loose.wpL_want rfl ?_; intro K hK; refine Loose.of_quiet rfl ?_; go_big_quiet_op; go_big_quiet_on
      refine Loose.wpL_want rfl ?_; intro K hK; refine Loose.of_quiet rfl ?_; go_big_quiet_op; go_big_quiet_on
      refine Loose.wpL_want rfl ?_; intro K hK; rw [if_pos rfl]; refine Loose.call 17 _ (fun _ => by go_simp; rfl) (Fw.loose_same ?_) ?_
      · intro n; exact back_calls _ len cap xs _ _ HL.out (by omega) (by omega) HIW.out
      go_simp; go_big_quiet_on
      refine Loose.wpL_want rfl ?_; intro K hK; refine Fw.loose_farith .mul (.inr (.inr rfl)) _ _ _ _ rfl rfl rfl ?_; intro r32 h; have H32 := Lib.hid h; clear h; go_simp; go_big_quiet_on
      refine Loose.wpL_want rfl ?_; intro K hK; refine Loose.of_quiet rfl ?_; go_big_quiet_op; go_big_quiet_on
      refine Loose.wpL_nil ?_
      rintro _ ⟨nq6, rfl⟩
      go_wp2_with fail
      refine Loose.wp_region_loose (fun j => if j = 5 then some (.float .f64 (bk xs ((k : Int) - 2))) else none) (by kernel_rfl) (by kernel_rfl) ?_
      refine Loose.wpL_want rfl ?_; intro K hK; refine Loose.of_quiet rfl ?_; go_big_quiet_op; go_big_quiet_on
      refine Loose.wpL_want rfl ?_; intro K hK; refine Loose.of_quiet rfl ?_; go_big_quiet_op; go_big_quiet_on
      refine Loose.wpL_want rfl ?_; intro K hK; refine Loose.of_quiet rfl ?_; go_big_quiet_op; go_big_quiet_on
      refine Loose.wpL_want rfl ?_; intro K hK; refine Loose.of_quiet rfl ?_; go_big_quiet_op; go_big_quiet_on
      refine Loose.wpL_want rfl ?_; intro K hK; refine Loose.of_quiet rfl ?_; go_big_quiet_op; go_big_quiet_on
      refine Loose.wpL_want rfl ?_; intro K hK; rw [if_pos rfl]; refine Loose.call 17 _ (fun _ => by go_simp; rfl) (Fw.loose_same ?_) ?_
      · intro n; exact back_calls _ len cap xs _ _ HL.out (by omega) (by omega) HIW.out
      go_simp; go_big_quiet_on
      refine Loose.wpL_want rfl ?_; intro K hK; refine Fw.loose_farith .mul (.inr (.inr rfl)) _ _ _ _ rfl rfl rfl ?_; intro r39 h; have H39 := Lib.hid h; clear h; go_simp; go_big_quiet_on
      refine Loose.wpL_want rfl ?_; intro K hK; refine Loose.of_quiet rfl ?_; go_big_quiet_op; go_big_quiet_on
      refine Loose.wpL_nil ?_
      rintro _ ⟨nq7, rfl⟩
      go_wp2_with fail
      refine Loose.wp_region_loose (fun j => if j = 5 then some (.float .f64 (bk ys ((k : Int) - 1))) else none) (by kernel_rfl) (by kernel_rfl) ?_
      refine Loose.wpL_want rfl ?_; intro K hK; refine Loose.of_quiet rfl ?_; go_big_quiet_op; go_big_quiet_on
      refine Loose.wpL_want rfl ?_; intro K hK; refine Loose.of_quiet rfl ?_; go_big_quiet_op; go_big_quiet_on
      refine Loose.wpL_want rfl ?_; intro K hK; refine Loose.of_quiet rfl ?_; go_big_quiet_op; go_big_quiet_on
      refine Loose.wpL_want rfl ?_; intro K hK; refine Loose.of_quiet rfl ?_; go_big_quiet_op; go_big_quiet_on
      refine Loose.wpL_want rfl ?_; intro K hK; refine Loose.of_quiet rfl ?_; go_big_quiet_op; go_big_quiet_on
      refine Loose.wpL_want rfl ?_; intro K hK; rw [if_pos rfl]; refine Loose.call 17 _ (fun _ => by go_simp; rfl) (Fw.loose_same ?_) ?_
      · intro n; exact back_calls _ k cap5 ys _ _ HYL.out (by omega) (by omega) HI5.out
      go_simp; go_big_quiet_on
      refine Loose.wpL_want rfl ?_; intro K hK; refine Fw.loose_farith .mul (.inr (.inr rfl)) _ _ _ _ rfl rfl rfl ?_; intro r46 h; have H46 := Lib.hid h; clear h; go_simp; go_big_quiet_on
      refine Loose.wpL_want rfl ?_; intro K hK; refine Loose.of_quiet rfl ?_; go_big_quiet_op; go_big_quiet_on
      refine Loose.wpL_nil ?_
      rintro _ ⟨nq8, rfl⟩
      go_wp2_with fail
      refine Loose.wp_region_loose (fun j => if j = 5 then some (.float .f64 (bk ys ((k : Int) - 2))) else none) (by kernel_rfl) (by kernel_rfl) ?_
      refine Loose.wpL_want rfl ?_; intro K hK; refine Loose.of_quiet rfl ?_; go_big_quiet_op; go_big_quiet_on
      refine Loose.wpL_want rfl ?_; intro K hK; refine Loose.of_quiet rfl ?_; go_big_quiet_op; go_big_quiet_on
      refine Loose.wpL_want rfl ?_; intro K hK; refine Loose.of_quiet rfl ?_; go_big_quiet_op; go_big_quiet_on
      refine Loose.wpL_want rfl ?_; intro K hK; refine Loose.of_quiet rfl ?_; go_big_quiet_op; go_big_quiet_on
      refine Loose.wpL_want rfl ?_; intro K hK; refine Loose.of_quiet rfl ?_; go_big_quiet_op; go_big_quiet_on
      refine Loose.wpL_want rfl ?_; intro K hK; rw [if_pos rfl]; refine Loose.call 17 _ (fun _ => by go_simp; rfl) (Fw.loose_same ?_) ?_
      · intro n; exact back_calls _ k cap5 ys _ _ HYL.out (by omega) (by omega) HI5.out
      go_simp; go_big_quiet_on
      refine Loose.wpL_want rfl ?_; intro K hK; refine Fw.loose_farith .mul (.inr (.inr rfl)) _ _ _ _ rfl rfl rfl ?_; intro r53 h; have H53 := Lib.hid h; clear h; go_simp; go_big_quiet_on
      refine Loose.wpL_want rfl ?_; intro K hK; refine Loose.of_quiet rfl ?_; go_big_quiet_op; go_big_quiet_on
      refine Loose.wpL_nil ?_
      rintro _ ⟨nq9, rfl⟩
      go_wp2_with (first
        | (refine Fw.wpList_farith _ rfl .add (.inl rfl) (x := r25) (y := r32) _ _ _ _ rfl rfl rfl ?_; intro r56 n56 h; have H56 := Lib.hid h; clear h)
        | (refine Fw.wpList_farith _ rfl .add (.inl rfl) (x := r56) (y := r39) _ _ _ _ rfl rfl rfl ?_; intro r59 n59 h; have H59 := Lib.hid h; clear h)
        | (refine Fw.wpList_farith _ rfl .sub (.inr (.inl rfl)) (x := r59) (y := r46) _ _ _ _ rfl rfl rfl ?_; intro r62 n62 h; have H62 := Lib.hid h; clear h)
        | (refine Fw.wpList_farith _ rfl .sub (.inr (.inl rfl)) (x := r62) (y := r53) _ _ _ _ rfl rfl rfl ?_; intro r65 n65 h; have H65 := Lib.hid h; clear h)
        | (at_builtin; refine wpList_append_own _ rfl _ _ 30 rfl (w.heap.size + 1) 22 i0 (.float .f64 0) 1 8 Try.underlying30 hi hz0 hz1 hz2 rfl (by decide) _ _ _ rfl (HOA.out _ _) ⟨wr.heap.size, 0, none⟩ 1 1 [.float .f64 r65] rfl rfl ?c1 ?c2 ?c3 ?c4 ?c5 ?_))
      case c1 => exact cell_one_new _ _ _
      case c2 => intro u hu; simp at hu; subst hu; rfl
      case c3 => have := HYL.out; (try simp only [maxLen]); omega
      case c4 => have := HYL.out; (try simp only [maxLen]); omega
      case c5 => first | (simp; omega) | omega
      intro v' w5 hown5 hg5 _
      have hxs : k ≤ xs.length := by rw [HL.out]; omega
      have HQ : (outs c rest0 (xs.take k)).length = k := by rw [outs_length, List.length_take]; omega
      have HF := fin_back c xs k hxs
      have hbk : ∀ i : Int, cn (bk ys i) = bk (outs c rest0 (xs.take k)) i := by
        intro i
        rw [← HY.out]
        unfold bk
        split
        · exact cn_zero
        · rw [List.getElem?_map]
          cases ys[i.toNat]? with
          | none => exact cn_zero
          | some v => rfl
      have HS := sum_up H25.out H32.out H39.out H46.out H53.out H56.out H59.out H62.out H65.out
      have HYL' : Hid ((ys ++ [r65]).length = k + 1) := by have := HYL.out; unfold Hid; simp; omega
      have HO' : Hid (w5.ownsRow (w.heap.size + 1) 22 1 v' (ys ++ [r65]).length ((ys ++ [r65]).map (Value.float .f64))) := by
        unfold Hid; rw [List.length_append, List.map_append]; exact hown5
      have HY' : Hid ((ys ++ [r65]).map cn = outs c rest0 (xs.take (k + 1))) := by
        unfold Hid
        rw [take_snoc HX.out, outs_append, List.map_append, HY.out, HF]
        simp only [outs, List.map_cons, List.map_nil]
        rw [HS, hbk, hbk]
      have HBG : Hid (Box w5 w.heap.size c ∧ w.grownBy w5 none) := by
        have hgr : Gr (w.heap.size + 1) [22] wr w5 := (Gr.alloc (a := wr) (b := wr.drewN (nq5 + nq6 + nq7 + nq8 + nq9 + n56 + n59 + n62 + n65)) ⟨rfl, rfl, rfl, Nat.le_refl _, fun _ _ _ => rfl⟩ _).trans (.of_append (HOA.out _ _) hg5 (by simp))
        have hg0 : Gr (w.heap.size + 1) [22] w w5 := (Gr.of_none HG.out).trans hgr
        exact ⟨HB.out.gr hgr (by simp), ⟨hg0.os, hg0.tape, hg0.output, hg0.size, fun i h1 _ => hg0.block i h1 (.inl (by omega))⟩⟩
      go_wp2_with fail
      go_roundw
      case rel =>
        exact ⟨k + 1, ys ++ [r65], by omega, by go_num, HYL', HO', HY', HBG.out.1, HBG.out.2⟩
      case measure => simp [intOf]; omega
    · have hke : k = len := by omega
      subst hke
      obtain ⟨a5, cap5, hu5, hi5⟩ := fls_in (owns_sl (R := fun _ u x => u = .float .f64 x) (xs := ys) HO.out (by simp) (fun i u x h1 h2 => by rw [List.getElem?_map, h2] at h1; simpa using h1.symm))
      subst hu5
      go_wp2_with fail
      go_ret
      have hxy : xs.length = ys.length := by rw [HL.out, HYL.out]
      exact ⟨a5, cap5, ys, by rw [hxy]; rfl, hxy.symm, hi5, by have := HY.out; rwa [List.take_of_length_le (by rw [HL.out]; exact Nat.le_refl _)] at this, HG.out⟩
end Go.Proofs.Ytonpopiofmojnaa.FRef
