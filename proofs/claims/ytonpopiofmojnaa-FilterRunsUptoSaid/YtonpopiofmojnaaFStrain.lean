/- Strain: a filter, piece by piece. -/
import Derived.Test.YtonpopiofmojnaaFNew
import Derived.Test.YtonpopiofmojnaaRd
namespace Go.Proofs.Ytonpopiofmojnaa.FStrain
open Go Go.RowKit Go.Proofs.Ytonpopiofmojnaa.Fl Go.Proofs.Ytonpopiofmojnaa.Fw Go.Proofs.Ytonpopiofmojnaa.Hp Go.Proofs.Ytonpopiofmojnaa.FRun Go.Proofs.Ytonpopiofmojnaa.FNew Go.Proofs.Ytonpopiofmojnaa.Rd
set_option linter.unusedVariables false

/-- Run, of whatever slice of floats that lies elsewhere. -/
theorem run_calls (bp : Nat) (c : Co) (s : St) (u : Value) (xs : List Nat) (w : World) (hf : FAt w bp c s) (hu : Fls w u xs) (hl : xs.length * 8 ≤ 140737488355328)
    (hne : ∀ b off n cap, u = .slice (some ⟨b, off, none⟩) n cap → xs ≠ [] → b ≠ bp) :
    Calls Try.prog 15 #[.pointer (some ⟨bp, 0, none⟩), u] w fun e w' => Ran w bp c s xs e w' := by
  obtain ⟨q1, q2, q3, q4, hf, rfl⟩ := hf
  rcases hu with ⟨b, off, cap, rfl, h⟩ | ⟨ao, cap, rfl, rfl⟩
  · by_cases hx : xs = []
    · subst hx
      exact run_walk_nil bp cap _ c q1 q2 q3 q4 w hf
    · exact run_walk bp b off xs.length cap c q1 q2 q3 q4 xs w rfl hl hf (fun i x hi => by
        obtain ⟨u, h1, rfl⟩ := h i x hi
        exact h1) (hne _ _ _ _ rfl hx) (lt_of hf)
  · exact run_walk_nil bp cap _ c q1 q2 q3 q4 w hf

theorem info30 : (Try.prog.info? 30).map (fun i => (i.zero, i.size, i.bytes)) = some (some (.slice none 0 0), 1, 24) := by kernel_rfl

/-- What comes out, piece by piece; ahead of piece 'rest' the filter comes to rest. -/
def strains (c : Co) (rest : Int) : Nat → St → List (List Nat) → List (List Nat)
  | _, _, [] => []
  | i, s, x :: l => outs c (if (i : Int) = rest then rest0 else s) x :: strains c rest (i + 1) (fin c (if (i : Int) = rest then rest0 else s) x) l
def strainsEnd (c : Co) (rest : Int) : Nat → St → List (List Nat) → St
  | _, s, [] => s
  | i, s, x :: l => strainsEnd c rest (i + 1) (fin c (if (i : Int) = rest then rest0 else s) x) l

theorem strains_append (c : Co) (rest : Int) : ∀ (i : Nat) (s : St) (a b : List (List Nat)), strains c rest i s (a ++ b) = strains c rest i s a ++ strains c rest (i + a.length) (strainsEnd c rest i s a) b
  | _, _, [], _ => rfl
  | i, s, x :: a, b => by
    simp only [List.cons_append, strains, strainsEnd, List.length_cons]
    rw [strains_append c rest (i + 1) _ a b, show i + 1 + a.length = i + (a.length + 1) from by omega]
theorem strainsEnd_append (c : Co) (rest : Int) : ∀ (i : Nat) (s : St) (a b : List (List Nat)), strainsEnd c rest i s (a ++ b) = strainsEnd c rest (i + a.length) (strainsEnd c rest i s a) b
  | _, _, [], _ => rfl
  | i, s, x :: a, b => by
    simp only [List.cons_append, strainsEnd, List.length_cons]
    rw [strainsEnd_append c rest (i + 1) _ a b, show i + 1 + a.length = i + (a.length + 1) from by omega]

/-- k pieces are done. -/
def SRel (w0 : World) (bp : Nat) (c : Co) (rest : Int) (ps : List (List Nat)) (k : Nat) (v : Value) (wr : World) : Prop :=
  ∃ (vs : List Value) (yss : List (List Nat)), wr.ownsRow w0.heap.size 30 1 v k vs ∧ vs.length = k ∧ yss.length = k ∧ (∀ (i : Nat) (u : Value) (ys : List Nat), vs[i]? = some u → yss[i]? = some ys → Own 22 wr u (ys.map (Value.float .f64))) ∧
    yss.map (List.map cn) = strains c rest 0 rest0 (ps.take k) ∧ FAt wr bp c (strainsEnd c rest 0 rest0 (ps.take k)) ∧ Gr w0.heap.size [50, 30] w0 wr

theorem srel_start {w w1 : World} {bp : Nat} {c : Co} {rest : Int} {ps : List (List Nat)} (hf : FAt w1 bp c rest0) (hg : w.grownBy w1 none) : SRel w bp c rest ps 0 (.slice none 0 0) w1 :=
  ⟨[], [], World.ownsRow_nil _ _ _ _, rfl, rfl, fun i u ys h => by simp at h, rfl, hf, .of_none hg⟩

theorem take_snoc {α : Type} {l : List α} {k : Nat} {x : α} (h : l[k]? = some x) : l.take (k + 1) = l.take k ++ [x] := by
  obtain ⟨h1, h2⟩ := List.getElem?_eq_some_iff.1 h
  rw [List.take_succ_eq_append_getElem h1, h2]

theorem take_len {α : Type} {l : List α} {k : Nat} {x : α} (h : l[k]? = some x) : (l.take k).length = k := by
  obtain ⟨h1, h2⟩ := List.getElem?_eq_some_iff.1 h
  rw [List.length_take]; omega

/-- One piece more: the world w2 is the round's, or the one in which the filter has come to rest. -/
theorem srel_next {w0 wr w2 w3 w5 : World} {bp g k : Nat} {c : Co} {rest : Int} {ps : List (List Nat)} {p ys : List Nat} {vs : List Value} {yss : List (List Nat)} {v' : Value} {s' : St}
    (hs' : s' = if (k : Int) = rest then rest0 else strainsEnd c rest 0 rest0 (ps.take k))
    (e2 : vs.length = k) (e3 : yss.length = k) (e4 : ∀ (i : Nat) (u : Value) (ys : List Nat), vs[i]? = some u → yss[i]? = some ys → Own 22 wr u (ys.map (Value.float .f64)))
    (e5 : yss.map (List.map cn) = strains c rest 0 rest0 (ps.take k)) (e7 : Gr w0.heap.size [50, 30] w0 wr) (hp : ps[k]? = some p)
    (g2 : Gr w0.heap.size [50, 30] wr w2) (hbp : w0.heap.size ≤ bp) (hf2 : FAt w2 bp c s')
    (hrow : w3.heap[g]? = some (.cells (ys.map (Value.float .f64)).toArray 22 (0, 0))) (hys : ys.map cn = outs c s' p) (hf3 : FAt w3 bp c (fin c s' p)) (hg3 : w2.grownBy w3 (some bp))
    (hown : w5.ownsRow w0.heap.size 30 1 v' (k + 1) (vs ++ [.slice (some ⟨g, 0, none⟩) p.length p.length])) (hg5 : Gr w0.heap.size [50, 30] w3 w5) (hg5' : Gr w0.heap.size [30] w3 w5) :
    SRel w0 bp c rest ps (k + 1) v' w5 := by
  have g3 : Gr w0.heap.size [50, 30] w2 w3 := by
    obtain ⟨q1, q2, q3, q4, hb, _⟩ := hf2
    exact .of_some hg3 hb (by simp) hbp
  have hlen : ys.length = p.length := by
    have := congrArg List.length hys
    rwa [List.length_map, outs_length] at this
  refine ⟨vs ++ [.slice (some ⟨g, 0, none⟩) p.length p.length], yss ++ [ys], hown, by simp [e2], by simp [e3], ?_, ?_, ?_, e7.trans (g2.trans (g3.trans hg5))⟩
  · intro i u zs hu hz
    by_cases hi : i < k
    · rw [List.getElem?_append_left (by omega)] at hu hz
      exact (e4 i u zs hu hz).gr (g2.trans (g3.trans hg5)) (by simp)
    · have hik : i = k := by
        have := (List.getElem?_eq_some_iff.1 hu).1
        simp at this
        omega
      subst hik
      rw [List.getElem?_append_right (by omega), e2, Nat.sub_self] at hu
      rw [List.getElem?_append_right (by omega), e3, Nat.sub_self] at hz
      simp at hu hz
      subst hu hz
      exact ⟨g, by simp [hlen], hg5.keep hrow (by simp)⟩
  · rw [take_snoc hp, strains_append, List.map_append, e5, take_len hp]
    simp only [strains, Nat.zero_add, List.map_cons, List.map_nil, hys, hs']
  · rw [take_snoc hp, strainsEnd_append, take_len hp]
    simp only [strainsEnd, Nat.zero_add]
    rw [← hs']
    obtain ⟨q1, q2, q3, q4, hb, he⟩ := hf3
    exact ⟨q1, q2, q3, q4, hg5'.keep hb (by simp), he⟩

/-- A slice of rows of floats that the call has made. -/
def Ols : World → Value → List (List Nat) → Prop := Sl fun w u ys => Own 22 w u (ys.map (Value.float .f64))

def StrainPost (w : World) (c : Co) (rest : Int) (ps : List (List Nat)) (e : Ending) (w' : World) : Prop :=
  w.grownBy w' none ∧ ((okAll c = true ∧ ∃ v yss, e = .returned (.tuple #[v, .int .i64 0]) ∧ Ols w' v yss ∧ yss.map (List.map cn) = strains c rest 0 rest0 ps) ∨ (okAll c = false ∧ e = .returned (.tuple #[.slice none 0 0, .int .i64 3])))

theorem gr_ran {B : Nat} {w2 w3 : World} {bp : Nat} {c : Co} {s : St} (hf2 : FAt w2 bp c s) (hg3 : w2.grownBy w3 (some bp)) (hbp : B ≤ bp) : Gr B [50] w2 w3 := by
  obtain ⟨q1, q2, q3, q4, hb, _⟩ := hf2
  exact .of_some hg3 hb (by simp) hbp

theorem ne_of_old {w : World} {u : Value} {p : List Nat} {bp : Nat} (hu : Fls w u p) (hbp : w.heap.size ≤ bp) : ∀ b off n cap, u = .slice (some ⟨b, off, none⟩) n cap → p ≠ [] → b ≠ bp := by
  intro b off n cap e hp
  rcases hu with ⟨b', off', cap', e', h⟩ | ⟨ao, cap', e', h⟩
  · rw [e] at e'
    simp only [Value.slice.injEq, Option.some.injEq, Addr.mk.injEq, and_true] at e'
    obtain ⟨⟨rfl, rfl⟩, _, _⟩ := e'
    obtain ⟨x, l, rfl⟩ := List.exists_cons_of_ne_nil hp
    obtain ⟨_, hc, _⟩ := h 0 x rfl
    have := World.block_lt_of_cell? w _ hc
    simp at this
    omega
  · exact (hp h).elim

set_option maxHeartbeats 1000000 in
theorem strain_no (c : Co) (v : Value) (rest : Int) (ps : List (List Nat)) (w : World) (hok : okAll c = false) :
    Calls Try.prog 7 #[.agg #[.float .f64 c.b0, .float .f64 c.b1, .float .f64 c.b2, .float .f64 c.a1, .float .f64 c.a2], v, .int .i64 rest] w fun e w' => StrainPost w c rest ps e w' := by
  have HO := Lib.hid hok
  clear hok
  go_enter Try.func7, Try.ntmps7
  go_wp2_with (go_at_call 13; refine (new_no c _ HO.out).mono ?_; rintro e w' ⟨rfl, hg⟩; have HG := Lib.hid hg; clear hg)
  go_ret2
  exact ⟨grown_trans (grown_alloc (grown_refl _ _) _) HG.out, .inr ⟨HO.out, rfl⟩⟩

set_option maxHeartbeats 1000000 in
theorem strain_walk (c : Co) (b off n cap : Nat) (rest : Int) (ps : List (List Nat)) (w : World) (hok : okAll c = true) (hn : ps.length = n) (hsz : n * 24 ≤ 140737488355328) (hps : ∀ p ∈ ps, p.length * 8 ≤ 140737488355328)
    (hp : ∀ i x, ps[i]? = some x → ∃ u, w.cell? ⟨b, off + i, none⟩ = some u ∧ Fls w u x) :
    Calls Try.prog 7 #[.agg #[.float .f64 c.b0, .float .f64 c.b1, .float .f64 c.b2, .float .f64 c.a1, .float .f64 c.a2], .slice (some ⟨b, off, none⟩) n cap, .int .i64 rest] w fun e w' => StrainPost w c rest ps e w' := by
  obtain ⟨i0, hi, hz0, hz1, hz2⟩ := info_parts info30
  have HO := Lib.hid hok
  have HP := Lib.hid hps
  have HC := Lib.hid hp
  have HN := Lib.hid hn
  clear hok hps hp hn
  have ho := HO.out
  unfold okAll at ho
  simp only [Bool.and_eq_true] at ho
  obtain ⟨⟨⟨⟨h0, h1⟩, h2⟩, h3⟩, h4⟩ := ho
  have hnew := Lib.hid (fun w => new_ok c w h0 h1 h2 h3 h4)
  clear h0 h1 h2 h3 h4
  go_enter Try.func7, Try.ntmps7
  go_wp2_with (go_at_call 13; refine (hnew.out _).mono ?_; rintro e w1 ⟨rfl, hf, hg⟩; have HG := Lib.hid hg; have HF := Lib.hid hf; clear hg hf)
  have HB : Hid (Gr w.heap.size [50, 30] w w1) := .of_none (grown_trans (grown_alloc (grown_refl _ _) _) HG.out)
  have HS : Hid (SRel w (w.heap.size + 3) c rest ps 0 (.slice none 0 0) w1) := srel_start (by simpa using HF.out) (grown_trans (grown_alloc (grown_refl _ _) _) HG.out)
  clear HG HF hnew
  go_wp2_with fail
  go_loopw [10, 23] (fun v i wr => ∃ k : Nat, k ≤ n ∧ i = .int .i64 k ∧ Hid (SRel w (w.heap.size + 3) c rest ps k v wr)) (fun _ i _ => n - (intOf i).toNat)
  case atStart => exact ⟨0, Nat.zero_le _, rfl, HS⟩
  case round =>
    clear HS HB
    obtain ⟨k, hk, rfl, HR⟩ := hrel
    by_cases hlt : k < n
    · obtain ⟨vs, yss, hown, e2, e3, e4, e5, hf, hgr⟩ := HR.out
      obtain ⟨p, hpk⟩ : ∃ p, ps[k]? = some p := ⟨ps[k]'(by rw [HN.out]; omega), List.getElem?_eq_getElem (by rw [HN.out]; omega)⟩
      obtain ⟨u, hcu, hfu⟩ := HC.out k p hpk
      have hx : wr.cell? ⟨b, off + k, none⟩ = some u := hgr.none.cell hcu (by simp)
      have HFU := Lib.hid hfu
      have HLP := Lib.hid (HP.out p (List.mem_of_getElem? hpk))
      have H1 := Lib.hid hown
      have H2 := Lib.hid e2
      have H3 := Lib.hid e3
      have H4 := Lib.hid e4
      have H5 := Lib.hid e5
      have H6 := Lib.hid hf
      have H7 := Lib.hid hgr
      have H8 := Lib.hid hpk
      have HNE : Hid (∀ b off n cap, u = .slice (some ⟨b, off, none⟩) n cap → p ≠ [] → b ≠ w.heap.size + 3) := ne_of_old hfu (by omega)
      have hws : w.heap.size ≤ wr.heap.size := hgr.size
      clear hown e2 e3 e4 e5 hf hgr hpk hcu hfu HR
      by_cases hr : (k : Int) = rest
      · have hr' : ((k : Int) == rest) = true := by simpa using hr
        have HRR : Hid (rest0 = if (k : Int) = rest then rest0 else strainsEnd c rest 0 rest0 (ps.take k)) := by unfold Hid; rw [if_pos hr]
        clear hr
        go_wp2_with (go_at_call 14; refine (rest_calls _ c _ _ H6.out).mono ?_; rintro e w2 ⟨rfl, hf2, hg2⟩; have HF2 := Lib.hid hf2; have HG2 : Hid (Gr w.heap.size [50] wr w2) := (gr_ran H6.out hg2 (by omega)); clear hf2 hg2)
        go_wp2_with (first
          | (go_at_call 15; refine (run_calls _ c _ u p _ HF2.out (HFU.out.grown (H7.out.trans (HG2.out.more (by simp))).none) HLP.out HNE.out).mono ?_; rintro e w3 ⟨g, ys, rfl, hgs, hrow, hys, hf3, hg3⟩; have HROW := Lib.hid hrow; have HYS := Lib.hid hys; have HF3 := Lib.hid hf3; have HG3 := Lib.hid hg3; have HG4 := Lib.hid (gr_ran (B := w.heap.size) HF2.out hg3 (by omega)); have HOWN := Lib.hid (owns_gr H1.out (HG2.out.trans HG4.out) (by simp)); have hw3 : w.heap.size ≤ w3.heap.size := Nat.le_trans hws (HG2.out.trans HG4.out).size; clear hrow hys hf3 hg3)
          | (at_builtin; refine wpList_append_own _ rfl _ _ 25 rfl w.heap.size 30 i0 (.slice none 0 0) 1 24 Try.underlying25 hi hz0 hz1 hz2 rfl (by decide) _ _ _ rfl (HOWN.out.alloc _) ⟨w3.heap.size, 0, none⟩ 1 1 [.slice (some ⟨g, 0, none⟩) p.length p.length] rfl rfl ?c1 ?c2 ?c3 ?c4 ?c5 ?_))
        case c1 => exact cell_one_new _ _ _
        case c2 => intro u hu; simp at hu; subst hu; rfl
        case c3 => unfold maxLen; omega
        case c4 => omega
        case c5 => simp; omega
        intro v' w5 hown5 hg5 _
        have HN5 : Hid (SRel w (w.heap.size + 3) c rest ps (k + 1) v' w5) := srel_next HRR.out H2.out H3.out H4.out H5.out H7.out H8.out (HG2.out.more (by simp)) (by omega) HF2.out HROW.out HYS.out HF3.out HG3.out hown5
          ((Gr.alloc (Gr.refl _ _ _) _).trans (.of_append (HOWN.out.alloc _) hg5 (by simp))) ((Gr.alloc (Gr.refl _ _ _) _).trans (.of_append (HOWN.out.alloc _) hg5 (by simp)))
        clear hown5 hg5
        go_wp2_with fail
        go_roundw
        case rel => exact ⟨k + 1, by omega, by go_num, HN5⟩
        case measure => simp [intOf]; omega
      · have hr' : ((k : Int) == rest) = false := by simpa using hr
        have HRR : Hid (strainsEnd c rest 0 rest0 (ps.take k) = if (k : Int) = rest then rest0 else strainsEnd c rest 0 rest0 (ps.take k)) := by unfold Hid; rw [if_neg hr]
        have HF2 := H6
        have HG2 : Hid (Gr w.heap.size [50] wr wr) := Gr.refl _ _ _
        clear hr
        go_wp2_with (first
          | (go_at_call 15; refine (run_calls _ c _ u p _ HF2.out (HFU.out.grown (H7.out.trans (HG2.out.more (by simp))).none) HLP.out HNE.out).mono ?_; rintro e w3 ⟨g, ys, rfl, hgs, hrow, hys, hf3, hg3⟩; have HROW := Lib.hid hrow; have HYS := Lib.hid hys; have HF3 := Lib.hid hf3; have HG3 := Lib.hid hg3; have HG4 := Lib.hid (gr_ran (B := w.heap.size) HF2.out hg3 (by omega)); have HOWN := Lib.hid (owns_gr H1.out (HG2.out.trans HG4.out) (by simp)); have hw3 : w.heap.size ≤ w3.heap.size := Nat.le_trans hws (HG2.out.trans HG4.out).size; clear hrow hys hf3 hg3)
          | (at_builtin; refine wpList_append_own _ rfl _ _ 25 rfl w.heap.size 30 i0 (.slice none 0 0) 1 24 Try.underlying25 hi hz0 hz1 hz2 rfl (by decide) _ _ _ rfl (HOWN.out.alloc _) ⟨w3.heap.size, 0, none⟩ 1 1 [.slice (some ⟨g, 0, none⟩) p.length p.length] rfl rfl ?c1 ?c2 ?c3 ?c4 ?c5 ?_))
        case c1 => exact cell_one_new _ _ _
        case c2 => intro u hu; simp at hu; subst hu; rfl
        case c3 => unfold maxLen; omega
        case c4 => omega
        case c5 => simp; omega
        intro v' w5 hown5 hg5 _
        have HN5 : Hid (SRel w (w.heap.size + 3) c rest ps (k + 1) v' w5) := srel_next HRR.out H2.out H3.out H4.out H5.out H7.out H8.out (HG2.out.more (by simp)) (by omega) HF2.out HROW.out HYS.out HF3.out HG3.out hown5
          ((Gr.alloc (Gr.refl _ _ _) _).trans (.of_append (HOWN.out.alloc _) hg5 (by simp))) ((Gr.alloc (Gr.refl _ _ _) _).trans (.of_append (HOWN.out.alloc _) hg5 (by simp)))
        clear hown5 hg5
        go_wp2_with fail
        go_roundw
        case rel => exact ⟨k + 1, by omega, by go_num, HN5⟩
        case measure => simp [intOf]; omega
    · obtain rfl : k = n := by omega
      have HN' := HN.out
      have HE : Hid (StrainPost w c rest ps (.returned (.tuple #[u10, .int .i64 0])) wr) := by
        obtain ⟨vs, yss, hown, e2, e3, e4, e5, hf, hgr⟩ := HR.out
        rw [List.take_of_length_le (by omega)] at e5
        exact ⟨hgr.none, .inl ⟨HO.out, u10, yss, rfl, owns_sl hown (by rw [e2, e3]) fun i u ys hu hy => e4 i u ys hu hy, e5⟩⟩
      clear hi hz0 hz1 hz2 HN'
      go_wp2_with fail
      go_ret2
      exact HE.out

set_option maxHeartbeats 1000000 in
theorem strain_nil (c : Co) (ao : Option Addr) (cap : Nat) (rest : Int) (w : World) (hok : okAll c = true) :
    Calls Try.prog 7 #[.agg #[.float .f64 c.b0, .float .f64 c.b1, .float .f64 c.b2, .float .f64 c.a1, .float .f64 c.a2], .slice ao 0 cap, .int .i64 rest] w fun e w' => StrainPost w c rest [] e w' := by
  have HO := Lib.hid hok
  clear hok
  have ho := HO.out
  unfold okAll at ho
  simp only [Bool.and_eq_true] at ho
  obtain ⟨⟨⟨⟨h0, h1⟩, h2⟩, h3⟩, h4⟩ := ho
  have hnew := Lib.hid (fun w => new_ok c w h0 h1 h2 h3 h4)
  clear h0 h1 h2 h3 h4
  go_enter Try.func7, Try.ntmps7
  go_wp2_with (go_at_call 13; refine (hnew.out _).mono ?_; rintro e w1 ⟨rfl, hf, hg⟩; have HG := Lib.hid hg; have HF := Lib.hid hf; clear hg hf)
  refine wp_loop_once ?_
  go_wp2_with fail
  go_ret2
  exact ⟨grown_trans (grown_alloc (grown_refl _ _) _) HG.out, .inl ⟨HO.out, .slice none 0 0, [], rfl, .inr ⟨none, 0, rfl, rfl⟩, rfl⟩⟩

/-- STRAIN: whatever pieces come in. -/
theorem strain_calls (c : Co) (v : Value) (rest : Int) (ps : List (List Nat)) (w : World) (hv : Lls w v ps) (hsz : ps.length * 24 ≤ 140737488355328) (hps : ∀ p ∈ ps, p.length * 8 ≤ 140737488355328) :
    Calls Try.prog 7 #[.agg #[.float .f64 c.b0, .float .f64 c.b1, .float .f64 c.b2, .float .f64 c.a1, .float .f64 c.a2], v, .int .i64 rest] w fun e w' => StrainPost w c rest ps e w' := by
  by_cases hok : okAll c = true
  · rcases hv with ⟨b, off, cap, rfl, h⟩ | ⟨ao, cap, rfl, rfl⟩
    · exact strain_walk c b off ps.length cap rest ps w hok rfl hsz hps h
    · exact strain_nil c ao cap rest w hok
  · exact strain_no c v rest ps w (by simpa using hok)

end Go.Proofs.Ytonpopiofmojnaa.FStrain
