/- What the filter's method Run does: the walk, and what it computes. -/
import Derived.Test.YtonpopiofmojnaaRows
import Derived.Test.YtonpopiofmojnaaFw
import Derived.Test.YtonpopiofmojnaaHp
import Derived.Lib.Hide
namespace Go.Proofs.Ytonpopiofmojnaa.FRun
open Go Go.RowKit Go.Proofs.Ytonpopiofmojnaa.Fl Go.Proofs.Ytonpopiofmojnaa.Fw Go.Proofs.Ytonpopiofmojnaa.Hp
set_option linter.unusedVariables false

theorem info22 : (Try.prog.info? 22).map (fun i => (i.zero, i.size, i.bytes)) = some (some (.float .f64 0), 1, 8) := by kernel_rfl

/-- What a filter remembers, NaNs as one. -/
structure St where
  x1 : Nat
  x2 : Nat
  y1 : Nat
  y2 : Nat

structure Co where
  b0 : Nat
  b1 : Nat
  b2 : Nat
  a1 : Nat
  a2 : Nat

/-- The next sample. -/
def out (c : Co) (s : St) (x : Nat) : Nat := fsub (fsub (fadd (fadd (fmul c.b0 x) (fmul c.b1 s.x1)) (fmul c.b2 s.x2)) (fmul c.a1 s.y1)) (fmul c.a2 s.y2)
def nxt (c : Co) (s : St) (x : Nat) : St := ⟨cn x, s.x1, out c s x, s.y1⟩
def outs (c : Co) : St → List Nat → List Nat
  | _, [] => []
  | s, x :: l => out c s x :: outs c (nxt c s x) l
def fin (c : Co) : St → List Nat → St
  | s, [] => s
  | s, x :: l => fin c (nxt c s x) l

theorem outs_append (c : Co) : ∀ (s : St) (a b : List Nat), outs c s (a ++ b) = outs c s a ++ outs c (fin c s a) b
  | _, [], _ => rfl
  | s, x :: a, b => by simp only [List.cons_append, outs, fin]; rw [outs_append c (nxt c s x) a b]
theorem fin_append (c : Co) : ∀ (s : St) (a b : List Nat), fin c s (a ++ b) = fin c (fin c s a) b
  | _, [], _ => rfl
  | s, x :: a, b => by simp only [List.cons_append, fin]; rw [fin_append c (nxt c s x) a b]
theorem outs_length (c : Co) : ∀ (s : St) (a : List Nat), (outs c s a).length = a.length
  | _, [] => rfl
  | s, x :: a => by simp only [outs, List.length_cons]; rw [outs_length c (nxt c s x) a]

/-- A filter's cells: the coefficients, what it remembers. -/
def FBlk (w : World) (bp : Nat) (c : Co) (q1 q2 q3 q4 : Nat) : Prop :=
  w.heap[bp]? = some (.cells #[.float .f64 c.b0, .float .f64 c.b1, .float .f64 c.b2, .float .f64 c.a1, .float .f64 c.a2, .float .f64 q1, .float .f64 q2, .float .f64 q3, .float .f64 q4] 50 (0, 0))

/-- A filter lies in block bp, and remembers s. -/
def FAt (w : World) (bp : Nat) (c : Co) (s : St) : Prop := ∃ q1 q2 q3 q4 : Nat, FBlk w bp c q1 q2 q3 q4 ∧ (⟨cn q1, cn q2, cn q3, cn q4⟩ : St) = s

def FFacts (w : World) (bp : Nat) (c : Co) (q1 q2 q3 q4 : Nat) : Prop :=
  (w.cell? ⟨bp, 0, none⟩ = some (.float .f64 c.b0) ∧ w.cell? ⟨bp, 1, none⟩ = some (.float .f64 c.b1) ∧ w.cell? ⟨bp, 2, none⟩ = some (.float .f64 c.b2) ∧ w.cell? ⟨bp, 3, none⟩ = some (.float .f64 c.a1) ∧ w.cell? ⟨bp, 4, none⟩ = some (.float .f64 c.a2)) ∧
  (w.cell? ⟨bp, 5, none⟩ = some (.float .f64 q1) ∧ w.cell? ⟨bp, 6, none⟩ = some (.float .f64 q2) ∧ w.cell? ⟨bp, 7, none⟩ = some (.float .f64 q3) ∧ w.cell? ⟨bp, 8, none⟩ = some (.float .f64 q4)) ∧
  (w.frozen? ⟨bp, 5, none⟩ = false ∧ w.frozen? ⟨bp, 6, none⟩ = false ∧ w.frozen? ⟨bp, 7, none⟩ = false ∧ w.frozen? ⟨bp, 8, none⟩ = false)

theorem ffacts {w : World} {bp : Nat} {c : Co} {q1 q2 q3 q4 : Nat} (h : FBlk w bp c q1 q2 q3 q4) : FFacts w bp c q1 q2 q3 q4 := by
  unfold FBlk at h
  refine ⟨⟨?_, ?_, ?_, ?_, ?_⟩, ⟨?_, ?_, ?_, ?_⟩, free_of h _, free_of h _, free_of h _, free_of h _⟩ <;> rw [cell_of h] <;> rfl

/-- k numbers are done; the answer grows in block g. -/
def Rel (w : World) (bp g len : Nat) (c : Co) (s : St) (xs : List Nat) (k : Nat) (wr : World) : Prop :=
  ∃ (ys : List Nat) (q1 q2 q3 q4 : Nat), ys.length = k ∧ FBlk wr bp c q1 q2 q3 q4 ∧
    wr.heap[g]? = some (.cells ((ys.map (Value.float .f64)) ++ List.replicate (len - k) (Value.float .f64 0)).toArray 22 (0, 0)) ∧ w.grownBy wr (some bp) ∧
    ys.map cn = outs c s (xs.take k) ∧ (⟨cn q1, cn q2, cn q3, cn q4⟩ : St) = fin c s (xs.take k)

theorem rel_start {w w1 : World} {bp len : Nat} {c : Co} {q1 q2 q3 q4 : Nat} {xs : List Nat} (hf : FBlk w bp c q1 q2 q3 q4) (hn : w1.heap[w.heap.size]? = some (.cells (List.replicate len (Value.float .f64 0)).toArray 22 (0, 0)))
    (hg : w.grownBy w1 none) : Rel w bp w.heap.size len c ⟨cn q1, cn q2, cn q3, cn q4⟩ xs 0 w1 :=
  ⟨[], q1, q2, q3, q4, rfl, by unfold FBlk at *; rw [hg.block bp (lt_of hf) (by simp)]; exact hf, by simpa using hn, grown_none hg _, rfl, rfl⟩

theorem set_end (ys : List Nat) (n k : Nat) (y : Nat) (hk : ys.length = k) (hn : k < n) :
    ((ys.map (Value.float .f64)) ++ List.replicate (n - k) (Value.float .f64 0)).toArray.setIfInBounds k (.float .f64 y) = (((ys ++ [y]).map (Value.float .f64)) ++ List.replicate (n - (k + 1)) (Value.float .f64 0)).toArray := by
  subst hk
  rw [List.setIfInBounds_toArray]
  congr 1
  rw [show n - ys.length = (n - (ys.length + 1)) + 1 from by omega, List.replicate_succ, List.set_append_right _ _ (by simp)]
  simp

theorem rel_next {w wr : World} {bp g len k n : Nat} {c : Co} {s : St} {xs : List Nat} {ys : List Nat} {p1 p2 p3 p4 x y : Nat} (hgw : w.heap.size ≤ g) (hbp : bp < w.heap.size) (hlt : k < len)
    (e1 : ys.length = k) (e2 : FBlk wr bp c p1 p2 p3 p4)
    (e3 : wr.heap[g]? = some (.cells ((ys.map (Value.float .f64)) ++ List.replicate (len - k) (Value.float .f64 0)).toArray 22 (0, 0))) (e4 : w.grownBy wr (some bp))
    (e5 : ys.map cn = outs c s (xs.take k)) (e6 : (⟨cn p1, cn p2, cn p3, cn p4⟩ : St) = fin c s (xs.take k)) (hx : xs[k]? = some x) (hy : cn y = out c ⟨cn p1, cn p2, cn p3, cn p4⟩ x) :
    Rel w bp g len c s xs (k + 1) ((((((wr.drewN n).setCell ⟨bp, 5, none⟩ (.float .f64 x)).setCell ⟨bp, 6, none⟩ (.float .f64 p1)).setCell ⟨bp, 7, none⟩ (.float .f64 y)).setCell ⟨bp, 8, none⟩ (.float .f64 p3)).setCell ⟨g, k, none⟩ (.float .f64 y)) := by
  have hne : g ≠ bp := by omega
  have ht : xs.take (k + 1) = xs.take k ++ [x] := by
    obtain ⟨h1, h2⟩ := List.getElem?_eq_some_iff.1 hx
    rw [List.take_succ_eq_append_getElem h1, h2]
  refine ⟨ys ++ [y], x, p1, y, p3, by simp [e1], ?_, ?_, ?_, ?_, ?_⟩
  · unfold FBlk at e2 ⊢
    rw [set_other (by simpa using hne.symm)]
    have h := set_self (o := 8) (set_self (o := 7) (set_self (o := 6) (set_self (w := wr.drewN n) (o := 5) e2 (.float .f64 x)) (.float .f64 p1)) (.float .f64 y)) (.float .f64 p3)
    rw [h]
    rfl
  · have h1 : ((((((wr.drewN n).setCell ⟨bp, 5, none⟩ (.float .f64 x)).setCell ⟨bp, 6, none⟩ (.float .f64 p1)).setCell ⟨bp, 7, none⟩ (.float .f64 y)).setCell ⟨bp, 8, none⟩ (.float .f64 p3)).heap[g]?) = wr.heap[g]? := by
      rw [set_other (by simpa using hne), set_other (by simpa using hne), set_other (by simpa using hne), set_other (by simpa using hne)]; rfl
    rw [set_self (h1.trans e3), set_end ys len k y e1 hlt]
  · exact grown_set (grown_set (grown_set (grown_set (grown_set (grown_drewN e4 n) (.inl rfl) _) (.inl rfl) _) (.inl rfl) _) (.inl rfl) _) (.inr hgw) _
  · rw [ht, outs_append, List.map_append, e5, ← e6]
    simp [outs, hy]
  · rw [ht, fin_append, ← e6]
    simp [fin, nxt, hy]

/-- What Run leaves. -/
def Ran (w : World) (bp : Nat) (c : Co) (s : St) (xs : List Nat) (e : Ending) (w' : World) : Prop :=
  ∃ (g : Nat) (ys : List Nat), e = .returned (.slice (some ⟨g, 0, none⟩) xs.length xs.length) ∧ w.heap.size ≤ g ∧ w'.heap[g]? = some (.cells (ys.map (Value.float .f64)).toArray 22 (0, 0)) ∧
    ys.map cn = outs c s xs ∧ FAt w' bp c (fin c s xs) ∧ w.grownBy w' (some bp)

theorem ran_of {w wr : World} {bp g len : Nat} {c : Co} {s : St} {xs : List Nat} (hg : w.heap.size ≤ g) (hlen : xs.length = len) (h : Rel w bp g len c s xs len wr) :
    Ran w bp c s xs (.returned (.slice (some ⟨g, 0, none⟩) len len)) wr := by
  obtain ⟨ys, q1, q2, q3, q4, e1, e2, e3, e4, e5, e6⟩ := h
  subst hlen
  rw [List.take_length] at e5 e6
  exact ⟨g, ys, rfl, hg, by simpa using e3, e5, ⟨q1, q2, q3, q4, e2, e6⟩, e4⟩

theorem sum_up {c : Co} {p1 p2 p3 p4 x r25 r35 r36 r47 r48 r59 r60 r71 r72 : Nat} (h25 : cn r25 = fo .mul c.b0 x) (h35 : cn r35 = fo .mul c.b1 p1) (h36 : cn r36 = fo .add r25 r35) (h47 : cn r47 = fo .mul c.b2 p2) (h48 : cn r48 = fo .add r36 r47)
    (h59 : cn r59 = fo .mul c.a1 p3) (h60 : cn r60 = fo .sub r48 r59) (h71 : cn r71 = fo .mul c.a2 p4) (h72 : cn r72 = fo .sub r60 r71) : cn r72 = out c ⟨cn p1, cn p2, cn p3, cn p4⟩ x := by
  unfold fo at *
  unfold out
  simp only at *
  rw [h72]
  refine fsub_eq ?_ ?_
  · rw [h60, cn_fsub]
    refine fsub_eq ?_ ?_
    · rw [h48, cn_fadd]
      refine fadd_eq ?_ ?_
      · rw [h36, cn_fadd]
        refine fadd_eq ?_ ?_
        · rw [h25, cn_fmul]
        · rw [h35, cn_fmul]; exact fmul_eq rfl (cn_cn _).symm
      · rw [h47, cn_fmul]; exact fmul_eq rfl (cn_cn _).symm
    · rw [h59, cn_fmul]; exact fmul_eq rfl (cn_cn _).symm
  · rw [h71, cn_fmul]; exact fmul_eq rfl (cn_cn _).symm

set_option maxHeartbeats 2000000 in
set_option maxRecDepth 100000 in
theorem run_walk (bp b off len cap : Nat) (c : Co) (q1 q2 q3 q4 : Nat) (xs : List Nat) (w : World) (hlen : xs.length = len) (hl : len * 8 ≤ 140737488355328)
    (hf : FBlk w bp c q1 q2 q3 q4) (hc : ∀ i x, xs[i]? = some x → w.cell? ⟨b, off + i, none⟩ = some (.float .f64 x)) (hne : b ≠ bp) (hbp : bp < w.heap.size) :
    Calls Try.prog 15 #[.pointer (some ⟨bp, 0, none⟩), .slice (some ⟨b, off, none⟩) len cap] w fun e w' => Ran w bp c ⟨cn q1, cn q2, cn q3, cn q4⟩ xs e w' := by
  obtain ⟨i0, hi, hz0, hz1, hz2⟩ := info_parts info22
  go_enter Try.func15, Try.ntmps15
  go_wp2_with (first
    | (at_make; refine wpList_make_full _ rfl _ _ 30 rfl w.heap.size 22 i0 (.float .f64 0) 1 Try.underlying30 hi hz0 hz1 _ _ _ _ len rfl rfl rfl rfl (by rw [hz2]; omega) (by unfold maxLen; omega) (Nat.le_refl _) ?_)
    | fail)
  intro w1 hown hg
  rw [madeCells_one] at hown
  have hR : Hid (Rel w bp w.heap.size len c ⟨cn q1, cn q2, cn q3, cn q4⟩ xs 0 w1) := rel_start hf (new_of_made hown) hg
  clear hf hown hg
  go_wp2_with fail
  go_loopw [14] (fun i wr => ∃ k : Nat, k ≤ len ∧ i = .int .i64 k ∧ Hid (Rel w bp w.heap.size len c ⟨cn q1, cn q2, cn q3, cn q4⟩ xs k wr)) (fun i _ => len - (intOf i).toNat)
  case atStart => exact ⟨0, Nat.zero_le _, rfl, hR⟩
  case round =>
    clear hR hi hz0 hz1 hz2
    obtain ⟨k, hk, rfl, HR⟩ := hrel
    by_cases hlt : k < len
    · obtain ⟨ys, p1, p2, p3, p4, e1, e2, e3, e4, e5, e6⟩ := HR.out
      obtain ⟨⟨f0, f1, f2, f3, f4⟩, ⟨f5, f6, f7, f8⟩, f9, f10, f11, f12⟩ := ffacts e2
      obtain ⟨x, hxk⟩ : ∃ x, xs[k]? = some x := ⟨xs[k]'(by omega), List.getElem?_eq_getElem (by omega)⟩
      have hx : wr.cell? ⟨b, off + k, none⟩ = some (.float .f64 x) := e4.cell (hc k x hxk) (by simpa using hne)
      have Hxk := Lib.hid hxk
      clear hxk
      have g1 : wr.cell? ⟨w.heap.size, k, none⟩ = some (.float .f64 0) := by
        rw [cell_of e3]
        simp [List.getElem?_append, e1, List.getElem?_replicate]
        omega
      have g3 : ¬ bp = w.heap.size := by omega
      have g4 : ¬ w.heap.size = bp := by omega
      have g2 : wr.frozen? ⟨w.heap.size, k, none⟩ = false := free_of e3 _
      have H1 := Lib.hid e1
      have H2 := Lib.hid e2
      have H3 := Lib.hid e3
      have H4 := Lib.hid e4
      have H5 := Lib.hid e5
      have H6 := Lib.hid e6
      have HC := Lib.hid hc
      clear e1 e2 e3 e4 e5 e6 hc HR
      go_wp2_with fail
      refine Loose.wp_region_loose (fun _ => none) (by kernel_rfl) (by kernel_rfl) ?_
      refine Loose.wpL_want rfl ?_; intro K hK; refine Loose.of_quiet rfl ?_; go_big_quiet_op; go_big_quiet_on
      refine Loose.wpL_want rfl ?_; intro K hK; refine Loose.nilCheck _ rfl rfl ?_; go_simp; go_big_quiet_on
      refine Loose.wpL_want rfl ?_; intro K hK; refine Loose.of_quiet rfl ?_; go_big_quiet_op; go_big_quiet_on
      refine Loose.wpL_want rfl ?_; intro K hK; refine Loose.of_quiet rfl ?_; go_big_quiet_op; go_big_quiet_on
      refine Loose.wpL_want rfl ?_; intro K hK; refine Loose.of_quiet rfl ?_; go_big_quiet_op; go_big_quiet_on
      refine Loose.wpL_want rfl ?_; intro K hK; refine Loose.of_quiet rfl ?_; go_big_quiet_op; go_big_quiet_on
      refine Loose.wpL_want rfl ?_; intro K hK; refine Fw.loose_farith .mul (.inr (.inr rfl)) _ _ _ _ rfl rfl rfl ?_; intro r25 h; have H25 := Lib.hid h; clear h; go_simp; go_big_quiet_on
      refine Loose.wpL_want rfl ?_; intro K hK; refine Loose.of_quiet rfl ?_; go_big_quiet_op; go_big_quiet_on
      refine Loose.wpL_want rfl ?_; intro K hK; refine Loose.nilCheck _ rfl rfl ?_; go_simp; go_big_quiet_on
      refine Loose.wpL_want rfl ?_; intro K hK; refine Loose.of_quiet rfl ?_; go_big_quiet_op; go_big_quiet_on
      refine Loose.wpL_want rfl ?_; intro K hK; refine Loose.of_quiet rfl ?_; go_big_quiet_op; go_big_quiet_on
      refine Loose.wpL_want rfl ?_; intro K hK; refine Loose.of_quiet rfl ?_; go_big_quiet_op; go_big_quiet_on
      refine Loose.wpL_want rfl ?_; intro K hK; refine Loose.of_quiet rfl ?_; go_big_quiet_op; go_big_quiet_on
      refine Loose.wpL_want rfl ?_; intro K hK; refine Loose.nilCheck _ rfl rfl ?_; go_simp; go_big_quiet_on
      refine Loose.wpL_want rfl ?_; intro K hK; refine Loose.of_quiet rfl ?_; go_big_quiet_op; go_big_quiet_on
      refine Loose.wpL_want rfl ?_; intro K hK; refine Loose.of_quiet rfl ?_; go_big_quiet_op; go_big_quiet_on
      refine Loose.wpL_want rfl ?_; intro K hK; refine Fw.loose_farith .mul (.inr (.inr rfl)) _ _ _ _ rfl rfl rfl ?_; intro r35 h; have H35 := Lib.hid h; clear h; go_simp; go_big_quiet_on
      refine Loose.wpL_want rfl ?_; intro K hK; refine Fw.loose_farith .add (.inl rfl) _ _ _ _ rfl rfl rfl ?_; intro r36 h; have H36 := Lib.hid h; clear h; go_simp; go_big_quiet_on
      refine Loose.wpL_want rfl ?_; intro K hK; refine Loose.of_quiet rfl ?_; go_big_quiet_op; go_big_quiet_on
      refine Loose.wpL_nil ?_
      rintro _ ⟨nq5, rfl⟩
      go_wp2_with fail
      refine Loose.wp_region_loose (fun _ => none) (by kernel_rfl) (by kernel_rfl) ?_
      refine Loose.wpL_want rfl ?_; intro K hK; refine Loose.of_quiet rfl ?_; go_big_quiet_op; go_big_quiet_on
      refine Loose.wpL_want rfl ?_; intro K hK; refine Loose.of_quiet rfl ?_; go_big_quiet_op; go_big_quiet_on
      refine Loose.wpL_want rfl ?_; intro K hK; refine Loose.nilCheck _ rfl rfl ?_; go_simp; go_big_quiet_on
      refine Loose.wpL_want rfl ?_; intro K hK; refine Loose.of_quiet rfl ?_; go_big_quiet_op; go_big_quiet_on
      refine Loose.wpL_want rfl ?_; intro K hK; refine Loose.of_quiet rfl ?_; go_big_quiet_op; go_big_quiet_on
      refine Loose.wpL_want rfl ?_; intro K hK; refine Loose.of_quiet rfl ?_; go_big_quiet_op; go_big_quiet_on
      refine Loose.wpL_want rfl ?_; intro K hK; refine Loose.of_quiet rfl ?_; go_big_quiet_op; go_big_quiet_on
      refine Loose.wpL_want rfl ?_; intro K hK; refine Loose.nilCheck _ rfl rfl ?_; go_simp; go_big_quiet_on
      refine Loose.wpL_want rfl ?_; intro K hK; refine Loose.of_quiet rfl ?_; go_big_quiet_op; go_big_quiet_on
      refine Loose.wpL_want rfl ?_; intro K hK; refine Loose.of_quiet rfl ?_; go_big_quiet_op; go_big_quiet_on
      refine Loose.wpL_want rfl ?_; intro K hK; refine Fw.loose_farith .mul (.inr (.inr rfl)) _ _ _ _ rfl rfl rfl ?_; intro r47 h; have H47 := Lib.hid h; clear h; go_simp; go_big_quiet_on
      refine Loose.wpL_want rfl ?_; intro K hK; refine Fw.loose_farith .add (.inl rfl) _ _ _ _ rfl rfl rfl ?_; intro r48 h; have H48 := Lib.hid h; clear h; go_simp; go_big_quiet_on
      refine Loose.wpL_want rfl ?_; intro K hK; refine Loose.of_quiet rfl ?_; go_big_quiet_op; go_big_quiet_on
      refine Loose.wpL_nil ?_
      rintro _ ⟨nq6, rfl⟩
      go_wp2_with fail
      refine Loose.wp_region_loose (fun _ => none) (by kernel_rfl) (by kernel_rfl) ?_
      refine Loose.wpL_want rfl ?_; intro K hK; refine Loose.of_quiet rfl ?_; go_big_quiet_op; go_big_quiet_on
      refine Loose.wpL_want rfl ?_; intro K hK; refine Loose.of_quiet rfl ?_; go_big_quiet_op; go_big_quiet_on
      refine Loose.wpL_want rfl ?_; intro K hK; refine Loose.nilCheck _ rfl rfl ?_; go_simp; go_big_quiet_on
      refine Loose.wpL_want rfl ?_; intro K hK; refine Loose.of_quiet rfl ?_; go_big_quiet_op; go_big_quiet_on
      refine Loose.wpL_want rfl ?_; intro K hK; refine Loose.of_quiet rfl ?_; go_big_quiet_op; go_big_quiet_on
      refine Loose.wpL_want rfl ?_; intro K hK; refine Loose.of_quiet rfl ?_; go_big_quiet_op; go_big_quiet_on
      refine Loose.wpL_want rfl ?_; intro K hK; refine Loose.of_quiet rfl ?_; go_big_quiet_op; go_big_quiet_on
      refine Loose.wpL_want rfl ?_; intro K hK; refine Loose.nilCheck _ rfl rfl ?_; go_simp; go_big_quiet_on
      refine Loose.wpL_want rfl ?_; intro K hK; refine Loose.of_quiet rfl ?_; go_big_quiet_op; go_big_quiet_on
      refine Loose.wpL_want rfl ?_; intro K hK; refine Loose.of_quiet rfl ?_; go_big_quiet_op; go_big_quiet_on
      refine Loose.wpL_want rfl ?_; intro K hK; refine Fw.loose_farith .mul (.inr (.inr rfl)) _ _ _ _ rfl rfl rfl ?_; intro r59 h; have H59 := Lib.hid h; clear h; go_simp; go_big_quiet_on
      refine Loose.wpL_want rfl ?_; intro K hK; refine Fw.loose_farith .sub (.inr (.inl rfl)) _ _ _ _ rfl rfl rfl ?_; intro r60 h; have H60 := Lib.hid h; clear h; go_simp; go_big_quiet_on
      refine Loose.wpL_want rfl ?_; intro K hK; refine Loose.of_quiet rfl ?_; go_big_quiet_op; go_big_quiet_on
      refine Loose.wpL_nil ?_
      rintro _ ⟨nq7, rfl⟩
      go_wp2_with fail
      refine Loose.wp_region_loose (fun _ => none) (by kernel_rfl) (by kernel_rfl) ?_
      refine Loose.wpL_want rfl ?_; intro K hK; refine Loose.of_quiet rfl ?_; go_big_quiet_op; go_big_quiet_on
      refine Loose.wpL_want rfl ?_; intro K hK; refine Loose.of_quiet rfl ?_; go_big_quiet_op; go_big_quiet_on
      refine Loose.wpL_want rfl ?_; intro K hK; refine Loose.nilCheck _ rfl rfl ?_; go_simp; go_big_quiet_on
      refine Loose.wpL_want rfl ?_; intro K hK; refine Loose.of_quiet rfl ?_; go_big_quiet_op; go_big_quiet_on
      refine Loose.wpL_want rfl ?_; intro K hK; refine Loose.of_quiet rfl ?_; go_big_quiet_op; go_big_quiet_on
      refine Loose.wpL_want rfl ?_; intro K hK; refine Loose.of_quiet rfl ?_; go_big_quiet_op; go_big_quiet_on
      refine Loose.wpL_want rfl ?_; intro K hK; refine Loose.of_quiet rfl ?_; go_big_quiet_op; go_big_quiet_on
      refine Loose.wpL_want rfl ?_; intro K hK; refine Loose.nilCheck _ rfl rfl ?_; go_simp; go_big_quiet_on
      refine Loose.wpL_want rfl ?_; intro K hK; refine Loose.of_quiet rfl ?_; go_big_quiet_op; go_big_quiet_on
      refine Loose.wpL_want rfl ?_; intro K hK; refine Loose.of_quiet rfl ?_; go_big_quiet_op; go_big_quiet_on
      refine Loose.wpL_want rfl ?_; intro K hK; refine Fw.loose_farith .mul (.inr (.inr rfl)) _ _ _ _ rfl rfl rfl ?_; intro r71 h; have H71 := Lib.hid h; clear h; go_simp; go_big_quiet_on
      refine Loose.wpL_want rfl ?_; intro K hK; refine Fw.loose_farith .sub (.inr (.inl rfl)) _ _ _ _ rfl rfl rfl ?_; intro r72 h; have H72 := Lib.hid h; clear h; go_simp; go_big_quiet_on
      refine Loose.wpL_want rfl ?_; intro K hK; refine Loose.of_quiet rfl ?_; go_big_quiet_op; go_big_quiet_on
      refine Loose.wpL_nil ?_
      rintro _ ⟨nq8, rfl⟩
      go_wp2_with fail
      go_roundw
      case rel => exact ⟨k + 1, by omega, by go_num, rel_next (Nat.le_refl _) hbp hlt H1.out H2.out H3.out H4.out H5.out H6.out Hxk.out (sum_up H25.out H35.out H36.out H47.out H48.out H59.out H60.out H71.out H72.out)⟩
      case measure => simp [intOf]; omega
    · obtain rfl : k = len := by omega
      go_wp2_with fail
      go_ret
      exact ran_of (Nat.le_refl _) hlen HR.out

set_option maxHeartbeats 1000000 in
set_option maxRecDepth 100000 in
theorem run_walk_nil (bp cap : Nat) (ao : Option Addr) (c : Co) (q1 q2 q3 q4 : Nat) (w : World) (hf : FBlk w bp c q1 q2 q3 q4) :
    Calls Try.prog 15 #[.pointer (some ⟨bp, 0, none⟩), .slice ao 0 cap] w fun e w' => Ran w bp c ⟨cn q1, cn q2, cn q3, cn q4⟩ [] e w' := by
  obtain ⟨i0, hi, hz0, hz1, hz2⟩ := info_parts info22
  go_enter Try.func15, Try.ntmps15
  go_wp2_with (first
    | (at_make; refine wpList_make_full _ rfl _ _ 30 rfl w.heap.size 22 i0 (.float .f64 0) 1 Try.underlying30 hi hz0 hz1 _ _ _ _ 0 rfl rfl rfl rfl (by omega) (by unfold maxLen; omega) (Nat.le_refl _) ?_)
    | fail)
  intro w1 hown hg
  rw [madeCells_one] at hown
  have hR : Hid (Rel w bp w.heap.size 0 c ⟨cn q1, cn q2, cn q3, cn q4⟩ [] 0 w1) := rel_start hf (new_of_made hown) hg
  clear hf hown hg hi hz0 hz1 hz2
  go_wp2_with fail
  refine wp_loop_once ?_
  go_wp2_with fail
  go_ret
  exact ran_of (Nat.le_refl _) rfl hR.out
end Go.Proofs.Ytonpopiofmojnaa.FRun
