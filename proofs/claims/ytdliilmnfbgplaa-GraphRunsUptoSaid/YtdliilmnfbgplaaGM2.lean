/- Texts of the graph seat, in one file: GFRun, GFNew, GFLike, GVTab, GVSine, GVSin, GVRsin, GVShape, GVStepF, GVMod, GVWalk, GVLevel, GVRender, GVHeld. -/
import Derived.Test.YtdliilmnfbgplaaRows
import Derived.Test.YtdliilmnfbgplaaGM1
import Derived.Lib.Hide
import Derived.WalkKit
import Derived.WalkLawsBesides
import Derived.BigQuiet
import Derived.Outline
import Derived.Test.YtdliilmnfbgplaaProg
import Derived.Deep.MidRow
import Derived.Deep.Cut
import Derived.Deep.CutRange
import Derived.BigRegion
import Derived.Deep.RegionWith
/- What the filter's method Run does: the walk, and what it computes. -/
namespace Go.Proofs.Ytdliilmnfbgplaa.GFRun
open Go Go.RowKit Go.Proofs.Ytdliilmnfbgplaa.Fl Go.Proofs.Ytdliilmnfbgplaa.Fw Go.Proofs.Ytdliilmnfbgplaa.Hp
set_option linter.unusedVariables false

theorem info46 : (Try.prog.info? 46).map (fun i => (i.zero, i.size, i.bytes)) = some (some (.float .f64 0), 1, 8) := by kernel_rfl

/-- What a filter remembers, NaNs as one. -/
structure St where
  x1 : Nat
  x2 : Nat
  y1 : Nat
  y2 : Nat

structure Co where
  b0 : Nat
  b1 : Nat
  b2 : Nat
  a1 : Nat
  a2 : Nat

/-- The next sample. -/
def out (c : Co) (s : St) (x : Nat) : Nat := fsub (fsub (fadd (fadd (fmul c.b0 x) (fmul c.b1 s.x1)) (fmul c.b2 s.x2)) (fmul c.a1 s.y1)) (fmul c.a2 s.y2)
def nxt (c : Co) (s : St) (x : Nat) : St := ⟨cn x, s.x1, out c s x, s.y1⟩
def outs (c : Co) : St → List Nat → List Nat
  | _, [] => []
  | s, x :: l => out c s x :: outs c (nxt c s x) l
def fin (c : Co) : St → List Nat → St
  | s, [] => s
  | s, x :: l => fin c (nxt c s x) l

theorem outs_append (c : Co) : ∀ (s : St) (a b : List Nat), outs c s (a ++ b) = outs c s a ++ outs c (fin c s a) b
  | _, [], _ => rfl
  | s, x :: a, b => by simp only [List.cons_append, outs, fin]; rw [outs_append c (nxt c s x) a b]
theorem fin_append (c : Co) : ∀ (s : St) (a b : List Nat), fin c s (a ++ b) = fin c (fin c s a) b
  | _, [], _ => rfl
  | s, x :: a, b => by simp only [List.cons_append, fin]; rw [fin_append c (nxt c s x) a b]
theorem outs_length (c : Co) : ∀ (s : St) (a : List Nat), (outs c s a).length = a.length
  | _, [] => rfl
  | s, x :: a => by simp only [outs, List.length_cons]; rw [outs_length c (nxt c s x) a]

/-- A filter's cells: the coefficients, what it remembers. -/
def FBlk (w : World) (bp : Nat) (c : Co) (q1 q2 q3 q4 : Nat) : Prop :=
  w.heap[bp]? = some (.cells #[.float .f64 c.b0, .float .f64 c.b1, .float .f64 c.b2, .float .f64 c.a1, .float .f64 c.a2, .float .f64 q1, .float .f64 q2, .float .f64 q3, .float .f64 q4] 122 (0, 0))

/-- A filter lies in block bp, and remembers s. -/
def FAt (w : World) (bp : Nat) (c : Co) (s : St) : Prop := ∃ q1 q2 q3 q4 : Nat, FBlk w bp c q1 q2 q3 q4 ∧ (⟨cn q1, cn q2, cn q3, cn q4⟩ : St) = s

def FFacts (w : World) (bp : Nat) (c : Co) (q1 q2 q3 q4 : Nat) : Prop :=
  (w.cell? ⟨bp, 0, none⟩ = some (.float .f64 c.b0) ∧ w.cell? ⟨bp, 1, none⟩ = some (.float .f64 c.b1) ∧ w.cell? ⟨bp, 2, none⟩ = some (.float .f64 c.b2) ∧ w.cell? ⟨bp, 3, none⟩ = some (.float .f64 c.a1) ∧ w.cell? ⟨bp, 4, none⟩ = some (.float .f64 c.a2)) ∧
  (w.cell? ⟨bp, 5, none⟩ = some (.float .f64 q1) ∧ w.cell? ⟨bp, 6, none⟩ = some (.float .f64 q2) ∧ w.cell? ⟨bp, 7, none⟩ = some (.float .f64 q3) ∧ w.cell? ⟨bp, 8, none⟩ = some (.float .f64 q4)) ∧
  (w.frozen? ⟨bp, 5, none⟩ = false ∧ w.frozen? ⟨bp, 6, none⟩ = false ∧ w.frozen? ⟨bp, 7, none⟩ = false ∧ w.frozen? ⟨bp, 8, none⟩ = false)

theorem ffacts {w : World} {bp : Nat} {c : Co} {q1 q2 q3 q4 : Nat} (h : FBlk w bp c q1 q2 q3 q4) : FFacts w bp c q1 q2 q3 q4 := by
  unfold FBlk at h
  refine ⟨⟨?_, ?_, ?_, ?_, ?_⟩, ⟨?_, ?_, ?_, ?_⟩, free_of h _, free_of h _, free_of h _, free_of h _⟩ <;> rw [cell_of h] <;> rfl

/-- k numbers are done; the answer grows in block g. -/
def Rel (w : World) (bp g len : Nat) (c : Co) (s : St) (xs : List Nat) (k : Nat) (wr : World) : Prop :=
  ∃ (ys : List Nat) (q1 q2 q3 q4 : Nat), ys.length = k ∧ FBlk wr bp c q1 q2 q3 q4 ∧
    wr.heap[g]? = some (.cells ((ys.map (Value.float .f64)) ++ List.replicate (len - k) (Value.float .f64 0)).toArray 46 (0, 0)) ∧ w.grownBy wr (some bp) ∧
    ys.map cn = outs c s (xs.take k) ∧ (⟨cn q1, cn q2, cn q3, cn q4⟩ : St) = fin c s (xs.take k)

theorem rel_start {w w1 : World} {bp len : Nat} {c : Co} {q1 q2 q3 q4 : Nat} {xs : List Nat} (hf : FBlk w bp c q1 q2 q3 q4) (hn : w1.heap[w.heap.size]? = some (.cells (List.replicate len (Value.float .f64 0)).toArray 46 (0, 0)))
    (hg : w.grownBy w1 none) : Rel w bp w.heap.size len c ⟨cn q1, cn q2, cn q3, cn q4⟩ xs 0 w1 :=
  ⟨[], q1, q2, q3, q4, rfl, by unfold FBlk at *; rw [hg.block bp (lt_of hf) (by simp)]; exact hf, by simpa using hn, grown_none hg _, rfl, rfl⟩

theorem set_end (ys : List Nat) (n k : Nat) (y : Nat) (hk : ys.length = k) (hn : k < n) :
    ((ys.map (Value.float .f64)) ++ List.replicate (n - k) (Value.float .f64 0)).toArray.setIfInBounds k (.float .f64 y) = (((ys ++ [y]).map (Value.float .f64)) ++ List.replicate (n - (k + 1)) (Value.float .f64 0)).toArray := by
  subst hk
  rw [List.setIfInBounds_toArray]
  congr 1
  rw [show n - ys.length = (n - (ys.length + 1)) + 1 from by omega, List.replicate_succ, List.set_append_right _ _ (by simp)]
  simp

theorem rel_next {w wr : World} {bp g len k n : Nat} {c : Co} {s : St} {xs : List Nat} {ys : List Nat} {p1 p2 p3 p4 x y : Nat} (hgw : w.heap.size ≤ g) (hbp : bp < w.heap.size) (hlt : k < len)
    (e1 : ys.length = k) (e2 : FBlk wr bp c p1 p2 p3 p4)
    (e3 : wr.heap[g]? = some (.cells ((ys.map (Value.float .f64)) ++ List.replicate (len - k) (Value.float .f64 0)).toArray 46 (0, 0))) (e4 : w.grownBy wr (some bp))
    (e5 : ys.map cn = outs c s (xs.take k)) (e6 : (⟨cn p1, cn p2, cn p3, cn p4⟩ : St) = fin c s (xs.take k)) (hx : xs[k]? = some x) (hy : cn y = out c ⟨cn p1, cn p2, cn p3, cn p4⟩ x) :
    Rel w bp g len c s xs (k + 1) ((((((wr.drewN n).setCell ⟨bp, 5, none⟩ (.float .f64 x)).setCell ⟨bp, 6, none⟩ (.float .f64 p1)).setCell ⟨bp, 7, none⟩ (.float .f64 y)).setCell ⟨bp, 8, none⟩ (.float .f64 p3)).setCell ⟨g, k, none⟩ (.float .f64 y)) := by
  have hne : g ≠ bp := by omega
  have ht : xs.take (k + 1) = xs.take k ++ [x] := by
    obtain ⟨h1, h2⟩ := List.getElem?_eq_some_iff.1 hx
    rw [List.take_succ_eq_append_getElem h1, h2]
  refine ⟨ys ++ [y], x, p1, y, p3, by simp [e1], ?_, ?_, ?_, ?_, ?_⟩
  · unfold FBlk at e2 ⊢
    rw [set_other (by simpa using hne.symm)]
    have h := set_self (o := 8) (set_self (o := 7) (set_self (o := 6) (set_self (w := wr.drewN n) (o := 5) e2 (.float .f64 x)) (.float .f64 p1)) (.float .f64 y)) (.float .f64 p3)
    rw [h]
    rfl
  · have h1 : ((((((wr.drewN n).setCell ⟨bp, 5, none⟩ (.float .f64 x)).setCell ⟨bp, 6, none⟩ (.float .f64 p1)).setCell ⟨bp, 7, none⟩ (.float .f64 y)).setCell ⟨bp, 8, none⟩ (.float .f64 p3)).heap[g]?) = wr.heap[g]? := by
      rw [set_other (by simpa using hne), set_other (by simpa using hne), set_other (by simpa using hne), set_other (by simpa using hne)]; rfl
    rw [set_self (h1.trans e3), set_end ys len k y e1 hlt]
  · exact grown_set (grown_set (grown_set (grown_set (grown_set (grown_drewN e4 n) (.inl rfl) _) (.inl rfl) _) (.inl rfl) _) (.inl rfl) _) (.inr hgw) _
  · rw [ht, outs_append, List.map_append, e5, ← e6]
    simp [outs, hy]
  · rw [ht, fin_append, ← e6]
    simp [fin, nxt, hy]

/-- What Run leaves. -/
def Ran (w : World) (bp : Nat) (c : Co) (s : St) (xs : List Nat) (e : Ending) (w' : World) : Prop :=
  ∃ (g : Nat) (ys : List Nat), e = .returned (.slice (some ⟨g, 0, none⟩) xs.length xs.length) ∧ w.heap.size ≤ g ∧ w'.heap[g]? = some (.cells (ys.map (Value.float .f64)).toArray 46 (0, 0)) ∧
    ys.map cn = outs c s xs ∧ FAt w' bp c (fin c s xs) ∧ w.grownBy w' (some bp)

theorem ran_of {w wr : World} {bp g len : Nat} {c : Co} {s : St} {xs : List Nat} (hg : w.heap.size ≤ g) (hlen : xs.length = len) (h : Rel w bp g len c s xs len wr) :
    Ran w bp c s xs (.returned (.slice (some ⟨g, 0, none⟩) len len)) wr := by
  obtain ⟨ys, q1, q2, q3, q4, e1, e2, e3, e4, e5, e6⟩ := h
  subst hlen
  rw [List.take_length] at e5 e6
  exact ⟨g, ys, rfl, hg, by simpa using e3, e5, ⟨q1, q2, q3, q4, e2, e6⟩, e4⟩

theorem sum_up {c : Co} {p1 p2 p3 p4 x r25 r35 r36 r47 r48 r59 r60 r71 r72 : Nat} (h25 : cn r25 = fo .mul c.b0 x) (h35 : cn r35 = fo .mul c.b1 p1) (h36 : cn r36 = fo .add r25 r35) (h47 : cn r47 = fo .mul c.b2 p2) (h48 : cn r48 = fo .add r36 r47)
    (h59 : cn r59 = fo .mul c.a1 p3) (h60 : cn r60 = fo .sub r48 r59) (h71 : cn r71 = fo .mul c.a2 p4) (h72 : cn r72 = fo .sub r60 r71) : cn r72 = out c ⟨cn p1, cn p2, cn p3, cn p4⟩ x := by
  unfold fo at *
  unfold out
  simp only at *
  rw [h72]
  refine fsub_eq ?_ ?_
  · rw [h60, cn_fsub]
    refine fsub_eq ?_ ?_
    · rw [h48, cn_fadd]
      refine fadd_eq ?_ ?_
      · rw [h36, cn_fadd]
        refine fadd_eq ?_ ?_
        · rw [h25, cn_fmul]
        · rw [h35, cn_fmul]; exact fmul_eq rfl (cn_cn _).symm
      · rw [h47, cn_fmul]; exact fmul_eq rfl (cn_cn _).symm
    · rw [h59, cn_fmul]; exact fmul_eq rfl (cn_cn _).symm
  · rw [h71, cn_fmul]; exact fmul_eq rfl (cn_cn _).symm

set_option maxHeartbeats 2000000 in
set_option maxRecDepth 100000 in
theorem run_walk (bp b off len cap : Nat) (c : Co) (q1 q2 q3 q4 : Nat) (xs : List Nat) (w : World) (hlen : xs.length = len) (hl : len * 8 ≤ 140737488355328)
    (hf : FBlk w bp c q1 q2 q3 q4) (hc : ∀ i x, xs[i]? = some x → w.cell? ⟨b, off + i, none⟩ = some (.float .f64 x)) (hne : b ≠ bp) (hbp : bp < w.heap.size) :
    Calls Try.prog 75 #[.pointer (some ⟨bp, 0, none⟩), .slice (some ⟨b, off, none⟩) len cap] w fun e w' => Ran w bp c ⟨cn q1, cn q2, cn q3, cn q4⟩ xs e w' := by
  obtain ⟨i0, hi, hz0, hz1, hz2⟩ := info_parts info46
  go_enter Try.func75, Try.ntmps75
  go_wp2_with (first
    | (at_make; refine wpList_make_full _ rfl _ _ 38 rfl w.heap.size 46 i0 (.float .f64 0) 1 Try.underlying38 hi hz0 hz1 _ _ _ _ len rfl rfl rfl rfl (by rw [hz2]; omega) (by unfold maxLen; omega) (Nat.le_refl _) ?_)
    | fail)
  intro w1 hown hg
  rw [madeCells_one] at hown
  have hR : Hid (Rel w bp w.heap.size len c ⟨cn q1, cn q2, cn q3, cn q4⟩ xs 0 w1) := rel_start hf (new_of_made hown) hg
  clear hf hown hg
  go_wp2_with fail
  go_loopw [14] (fun i wr => ∃ k : Nat, k ≤ len ∧ i = .int .i64 k ∧ Hid (Rel w bp w.heap.size len c ⟨cn q1, cn q2, cn q3, cn q4⟩ xs k wr)) (fun i _ => len - (intOf i).toNat)
  case atStart => exact ⟨0, Nat.zero_le _, rfl, hR⟩
  case round =>
    clear hR hi hz0 hz1 hz2
    obtain ⟨k, hk, rfl, HR⟩ := hrel
    by_cases hlt : k < len
    · obtain ⟨ys, p1, p2, p3, p4, e1, e2, e3, e4, e5, e6⟩ := HR.out
      obtain ⟨⟨f0, f1, f2, f3, f4⟩, ⟨f5, f6, f7, f8⟩, f9, f10, f11, f12⟩ := ffacts e2
      obtain ⟨x, hxk⟩ : ∃ x, xs[k]? = some x := ⟨xs[k]'(by omega), List.getElem?_eq_getElem (by omega)⟩
      have hx : wr.cell? ⟨b, off + k, none⟩ = some (.float .f64 x) := e4.cell (hc k x hxk) (by simpa using hne)
      have Hxk := Lib.hid hxk
      clear hxk
      have g1 : wr.cell? ⟨w.heap.size, k, none⟩ = some (.float .f64 0) := by
        rw [cell_of e3]
        simp [List.getElem?_append, e1, List.getElem?_replicate]
        omega
      have g3 : ¬ bp = w.heap.size := by omega
      have g4 : ¬ w.heap.size = bp := by omega
      have g2 : wr.frozen? ⟨w.heap.size, k, none⟩ = false := free_of e3 _
      have H1 := Lib.hid e1
      have H2 := Lib.hid e2
      have H3 := Lib.hid e3
      have H4 := Lib.hid e4
      have H5 := Lib.hid e5
      have H6 := Lib.hid e6
      have HC := Lib.hid hc
      clear e1 e2 e3 e4 e5 e6 hc HR
      go_wp2_with fail
      refine Loose.wp_region_loose (fun _ => none) (by kernel_rfl) (by kernel_rfl) ?_
      refine Loose.wpL_want rfl ?_; intro K hK; refine Loose.of_quiet rfl ?_; go_big_quiet_op; go_big_quiet_on
      refine Loose.wpL_want rfl ?_; intro K hK; refine Loose.nilCheck _ rfl rfl ?_; go_simp; go_big_quiet_on
      refine Loose.wpL_want rfl ?_; intro K hK; refine Loose.of_quiet rfl ?_; go_big_quiet_op; go_big_quiet_on
      refine Loose.wpL_want rfl ?_; intro K hK; refine Loose.of_quiet rfl ?_; go_big_quiet_op; go_big_quiet_on
      refine Loose.wpL_want rfl ?_; intro K hK; refine Loose.of_quiet rfl ?_; go_big_quiet_op; go_big_quiet_on
      refine Loose.wpL_want rfl ?_; intro K hK; refine Loose.of_quiet rfl ?_; go_big_quiet_op; go_big_quiet_on
      refine Loose.wpL_want rfl ?_; intro K hK; refine Fw.loose_farith .mul (.inr (.inr rfl)) _ _ _ _ rfl rfl rfl ?_; intro r25 h; have H25 := Lib.hid h; clear h; go_simp; go_big_quiet_on
      refine Loose.wpL_want rfl ?_; intro K hK; refine Loose.of_quiet rfl ?_; go_big_quiet_op; go_big_quiet_on
      refine Loose.wpL_want rfl ?_; intro K hK; refine Loose.nilCheck _ rfl rfl ?_; go_simp; go_big_quiet_on
      refine Loose.wpL_want rfl ?_; intro K hK; refine Loose.of_quiet rfl ?_; go_big_quiet_op; go_big_quiet_on
      refine Loose.wpL_want rfl ?_; intro K hK; refine Loose.of_quiet rfl ?_; go_big_quiet_op; go_big_quiet_on
      refine Loose.wpL_want rfl ?_; intro K hK; refine Loose.of_quiet rfl ?_; go_big_quiet_op; go_big_quiet_on
      refine Loose.wpL_want rfl ?_; intro K hK; refine Loose.of_quiet rfl ?_; go_big_quiet_op; go_big_quiet_on
      refine Loose.wpL_want rfl ?_; intro K hK; refine Loose.nilCheck _ rfl rfl ?_; go_simp; go_big_quiet_on
      refine Loose.wpL_want rfl ?_; intro K hK; refine Loose.of_quiet rfl ?_; go_big_quiet_op; go_big_quiet_on
      refine Loose.wpL_want rfl ?_; intro K hK; refine Loose.of_quiet rfl ?_; go_big_quiet_op; go_big_quiet_on
      refine Loose.wpL_want rfl ?_; intro K hK; refine Fw.loose_farith .mul (.inr (.inr rfl)) _ _ _ _ rfl rfl rfl ?_; intro r35 h; have H35 := Lib.hid h; clear h; go_simp; go_big_quiet_on
      refine Loose.wpL_want rfl ?_; intro K hK; refine Fw.loose_farith .add (.inl rfl) _ _ _ _ rfl rfl rfl ?_; intro r36 h; have H36 := Lib.hid h; clear h; go_simp; go_big_quiet_on
      refine Loose.wpL_want rfl ?_; intro K hK; refine Loose.of_quiet rfl ?_; go_big_quiet_op; go_big_quiet_on
      refine Loose.wpL_nil ?_
      rintro _ ⟨nq5, rfl⟩
      go_wp2_with fail
      refine Loose.wp_region_loose (fun _ => none) (by kernel_rfl) (by kernel_rfl) ?_
      refine Loose.wpL_want rfl ?_; intro K hK; refine Loose.of_quiet rfl ?_; go_big_quiet_op; go_big_quiet_on
      refine Loose.wpL_want rfl ?_; intro K hK; refine Loose.of_quiet rfl ?_; go_big_quiet_op; go_big_quiet_on
      refine Loose.wpL_want rfl ?_; intro K hK; refine Loose.nilCheck _ rfl rfl ?_; go_simp; go_big_quiet_on
      refine Loose.wpL_want rfl ?_; intro K hK; refine Loose.of_quiet rfl ?_; go_big_quiet_op; go_big_quiet_on
      refine Loose.wpL_want rfl ?_; intro K hK; refine Loose.of_quiet rfl ?_; go_big_quiet_op; go_big_quiet_on
      refine Loose.wpL_want rfl ?_; intro K hK; refine Loose.of_quiet rfl ?_; go_big_quiet_op; go_big_quiet_on
      refine Loose.wpL_want rfl ?_; intro K hK; refine Loose.of_quiet rfl ?_; go_big_quiet_op; go_big_quiet_on
      refine Loose.wpL_want rfl ?_; intro K hK; refine Loose.nilCheck _ rfl rfl ?_; go_simp; go_big_quiet_on
      refine Loose.wpL_want rfl ?_; intro K hK; refine Loose.of_quiet rfl ?_; go_big_quiet_op; go_big_quiet_on
      refine Loose.wpL_want rfl ?_; intro K hK; refine Loose.of_quiet rfl ?_; go_big_quiet_op; go_big_quiet_on
      refine Loose.wpL_want rfl ?_; intro K hK; refine Fw.loose_farith .mul (.inr (.inr rfl)) _ _ _ _ rfl rfl rfl ?_; intro r47 h; have H47 := Lib.hid h; clear h; go_simp; go_big_quiet_on
      refine Loose.wpL_want rfl ?_; intro K hK; refine Fw.loose_farith .add (.inl rfl) _ _ _ _ rfl rfl rfl ?_; intro r48 h; have H48 := Lib.hid h; clear h; go_simp; go_big_quiet_on
      refine Loose.wpL_want rfl ?_; intro K hK; refine Loose.of_quiet rfl ?_; go_big_quiet_op; go_big_quiet_on
      refine Loose.wpL_nil ?_
      rintro _ ⟨nq6, rfl⟩
      go_wp2_with fail
      refine Loose.wp_region_loose (fun _ => none) (by kernel_rfl) (by kernel_rfl) ?_
      refine Loose.wpL_want rfl ?_; intro K hK; refine Loose.of_quiet rfl ?_; go_big_quiet_op; go_big_quiet_on
      refine Loose.wpL_want rfl ?_; intro K hK; refine Loose.of_quiet rfl ?_; go_big_quiet_op; go_big_quiet_on
      refine Loose.wpL_want rfl ?_; intro K hK; refine Loose.nilCheck _ rfl rfl ?_; go_simp; go_big_quiet_on
      refine Loose.wpL_want rfl ?_; intro K hK; refine Loose.of_quiet rfl ?_; go_big_quiet_op; go_big_quiet_on
      refine Loose.wpL_want rfl ?_; intro K hK; refine Loose.of_quiet rfl ?_; go_big_quiet_op; go_big_quiet_on
      refine Loose.wpL_want rfl ?_; intro K hK; refine Loose.of_quiet rfl ?_; go_big_quiet_op; go_big_quiet_on
      refine Loose.wpL_want rfl ?_; intro K hK; refine Loose.of_quiet rfl ?_; go_big_quiet_op; go_big_quiet_on
      refine Loose.wpL_want rfl ?_; intro K hK; refine Loose.nilCheck _ rfl rfl ?_; go_simp; go_big_quiet_on
      refine Loose.wpL_want rfl ?_; intro K hK; refine Loose.of_quiet rfl ?_; go_big_quiet_op; go_big_quiet_on
      refine Loose.wpL_want rfl ?_; intro K hK; refine Loose.of_quiet rfl ?_; go_big_quiet_op; go_big_quiet_on
      refine Loose.wpL_want rfl ?_; intro K hK; refine Fw.loose_farith .mul (.inr (.inr rfl)) _ _ _ _ rfl rfl rfl ?_; intro r59 h; have H59 := Lib.hid h; clear h; go_simp; go_big_quiet_on
      refine Loose.wpL_want rfl ?_; intro K hK; refine Fw.loose_farith .sub (.inr (.inl rfl)) _ _ _ _ rfl rfl rfl ?_; intro r60 h; have H60 := Lib.hid h; clear h; go_simp; go_big_quiet_on
      refine Loose.wpL_want rfl ?_; intro K hK; refine Loose.of_quiet rfl ?_; go_big_quiet_op; go_big_quiet_on
      refine Loose.wpL_nil ?_
      rintro _ ⟨nq7, rfl⟩
      go_wp2_with fail
      refine Loose.wp_region_loose (fun _ => none) (by kernel_rfl) (by kernel_rfl) ?_
      refine Loose.wpL_want rfl ?_; intro K hK; refine Loose.of_quiet rfl ?_; go_big_quiet_op; go_big_quiet_on
      refine Loose.wpL_want rfl ?_; intro K hK; refine Loose.of_quiet rfl ?_; go_big_quiet_op; go_big_quiet_on
      refine Loose.wpL_want rfl ?_; intro K hK; refine Loose.nilCheck _ rfl rfl ?_; go_simp; go_big_quiet_on
      refine Loose.wpL_want rfl ?_; intro K hK; refine Loose.of_quiet rfl ?_; go_big_quiet_op; go_big_quiet_on
      refine Loose.wpL_want rfl ?_; intro K hK; refine Loose.of_quiet rfl ?_; go_big_quiet_op; go_big_quiet_on
      refine Loose.wpL_want rfl ?_; intro K hK; refine Loose.of_quiet rfl ?_; go_big_quiet_op; go_big_quiet_on
      refine Loose.wpL_want rfl ?_; intro K hK; refine Loose.of_quiet rfl ?_; go_big_quiet_op; go_big_quiet_on
      refine Loose.wpL_want rfl ?_; intro K hK; refine Loose.nilCheck _ rfl rfl ?_; go_simp; go_big_quiet_on
      refine Loose.wpL_want rfl ?_; intro K hK; refine Loose.of_quiet rfl ?_; go_big_quiet_op; go_big_quiet_on
      refine Loose.wpL_want rfl ?_; intro K hK; refine Loose.of_quiet rfl ?_; go_big_quiet_op; go_big_quiet_on
      refine Loose.wpL_want rfl ?_; intro K hK; refine Fw.loose_farith .mul (.inr (.inr rfl)) _ _ _ _ rfl rfl rfl ?_; intro r71 h; have H71 := Lib.hid h; clear h; go_simp; go_big_quiet_on
      refine Loose.wpL_want rfl ?_; intro K hK; refine Fw.loose_farith .sub (.inr (.inl rfl)) _ _ _ _ rfl rfl rfl ?_; intro r72 h; have H72 := Lib.hid h; clear h; go_simp; go_big_quiet_on
      refine Loose.wpL_want rfl ?_; intro K hK; refine Loose.of_quiet rfl ?_; go_big_quiet_op; go_big_quiet_on
      refine Loose.wpL_nil ?_
      rintro _ ⟨nq8, rfl⟩
      go_wp2_with fail
      go_roundw
      case rel => exact ⟨k + 1, by omega, by go_num, rel_next (Nat.le_refl _) hbp hlt H1.out H2.out H3.out H4.out H5.out H6.out Hxk.out (sum_up H25.out H35.out H36.out H47.out H48.out H59.out H60.out H71.out H72.out)⟩
      case measure => simp [intOf]; omega
    · obtain rfl : k = len := by omega
      go_wp2_with fail
      go_ret
      exact ran_of (Nat.le_refl _) hlen HR.out

set_option maxHeartbeats 1000000 in
set_option maxRecDepth 100000 in
theorem run_walk_nil (bp cap : Nat) (ao : Option Addr) (c : Co) (q1 q2 q3 q4 : Nat) (w : World) (hf : FBlk w bp c q1 q2 q3 q4) :
    Calls Try.prog 75 #[.pointer (some ⟨bp, 0, none⟩), .slice ao 0 cap] w fun e w' => Ran w bp c ⟨cn q1, cn q2, cn q3, cn q4⟩ [] e w' := by
  obtain ⟨i0, hi, hz0, hz1, hz2⟩ := info_parts info46
  go_enter Try.func75, Try.ntmps75
  go_wp2_with (first
    | (at_make; refine wpList_make_full _ rfl _ _ 38 rfl w.heap.size 46 i0 (.float .f64 0) 1 Try.underlying38 hi hz0 hz1 _ _ _ _ 0 rfl rfl rfl rfl (by omega) (by unfold maxLen; omega) (Nat.le_refl _) ?_)
    | fail)
  intro w1 hown hg
  rw [madeCells_one] at hown
  have hR : Hid (Rel w bp w.heap.size 0 c ⟨cn q1, cn q2, cn q3, cn q4⟩ [] 0 w1) := rel_start hf (new_of_made hown) hg
  clear hf hown hg hi hz0 hz1 hz2
  go_wp2_with fail
  refine wp_loop_once ?_
  go_wp2_with fail
  go_ret
  exact ran_of (Nat.le_refl _) rfl hR.out
end Go.Proofs.Ytdliilmnfbgplaa.GFRun

/- The filter's small functions: New, Rest, wrong; the references' Wrong, Like, LikeAll, back; equal. -/
namespace Go.Proofs.Ytdliilmnfbgplaa.GFNew
open Go Go.RowKit Go.Proofs.Ytdliilmnfbgplaa.Fl Go.Proofs.Ytdliilmnfbgplaa.Fw Go.Proofs.Ytdliilmnfbgplaa.Hp Go.Proofs.Ytdliilmnfbgplaa.GFRun
set_option linter.unusedVariables false

/-- A coefficient is within its bounds. -/
def okc (x : Nat) : Bool := (D.order x 13929633647456944128 == some .gt || D.order x 13929633647456944128 == some .eq) && (D.order x 4706261610602168320 == some .lt || D.order x 4706261610602168320 == some .eq)

theorem format_f64 : FloatKind.f64.format = D := rfl

theorem ret_bool {a b : Bool} (h : a = b) : Ending.returned (.bool a) = .returned (.bool b) := by rw [h]
theorem beq_cast (x y : Nat) : ((x : Int) == (y : Int)) = (x == y) := by rw [Bool.eq_iff_iff]; simp; omega

theorem bits_run (x : Nat) (w : World) : (callFunc 32 #[.float .f64 x]).run Try.prog w = .ok (.value (.int .u64 x)) w := by
  rw [run_callFunc_extern (e := Extern.MathFloatBits.float64bits) Try.func32 (by kernel_rfl) (by kernel_rfl) (by kernel_rfl) (by kernel_rfl)]
  rfl

set_option maxHeartbeats 400000 in
theorem like_calls (x y : Nat) (w : World) : Calls Try.prog 20 #[.float .f64 x, .float .f64 y] w fun e w' => e = .returned (.bool (likeB x y)) ∧ w = w' := by
  have hb := bits_run
  go_enter Try.func20, Try.ntmps20
  go_wp2
  all_goals go_ret
  all_goals refine ⟨ret_bool ?_, rfl⟩
  all_goals simp_all [likeB, format_f64, beq_cast]
  all_goals (left; omega)



set_option maxHeartbeats 400000 in
theorem wrong_calls (x : Nat) (w : World) : Calls Try.prog 40 #[.float .f64 x] w fun e w' => e = .returned (.bool (!okc x)) ∧ w = w' := by
  go_enter Try.func40, Try.ntmps40
  go_wp2
  all_goals go_ret
  all_goals refine ⟨ret_bool ?_, rfl⟩
  all_goals simp_all [okc, format_f64]





/-- A filter, as it comes to rest. -/
def rest0 : St := ⟨0, 0, 0, 0⟩

theorem cn_zero : cn 0 = 0 := by decide +kernel

def RestPost (w : World) (bp : Nat) (c : Co) (e : Ending) (w' : World) : Prop := e = .returned (.tuple #[]) ∧ FAt w' bp c rest0 ∧ w.grownBy w' (some bp)

set_option maxHeartbeats 400000 in
theorem rest_calls (bp : Nat) (c : Co) (s : St) (w : World) (hf : FAt w bp c s) : Calls Try.prog 72 #[.pointer (some ⟨bp, 0, none⟩)] w fun e w' => RestPost w bp c e w' := by
  obtain ⟨q1, q2, q3, q4, hf, rfl⟩ := hf
  obtain ⟨⟨f0, f1, f2, f3, f4⟩, ⟨f5, f6, f7, f8⟩, f9, f10, f11, f12⟩ := ffacts hf
  have g0 : w.frozen? ⟨bp, 0, none⟩ = false := free_of hf _
  have g1 : w.frozen? ⟨bp, 1, none⟩ = false := free_of hf _
  have g2 : w.frozen? ⟨bp, 2, none⟩ = false := free_of hf _
  have g3 : w.frozen? ⟨bp, 3, none⟩ = false := free_of hf _
  have g4 : w.frozen? ⟨bp, 4, none⟩ = false := free_of hf _
  have HF := Lib.hid hf
  clear hf
  go_enter Try.func72, Try.ntmps72
  go_wp2
  go_end0
  refine ⟨rfl, ⟨0, 0, 0, 0, ?_, by rw [cn_zero]; rfl⟩, ?_⟩
  · unfold FBlk
    have hf := HF.out
    unfold FBlk at hf
    have h := set_self (o := 8) (set_self (o := 7) (set_self (o := 6) (set_self (o := 5) (set_self (o := 4) (set_self (o := 3) (set_self (o := 2) (set_self (o := 1) (set_self (o := 0) hf (.float .f64 c.b0)) (.float .f64 c.b1)) (.float .f64 c.b2)) (.float .f64 c.a1)) (.float .f64 c.a2)) (.float .f64 0)) (.float .f64 0)) (.float .f64 0)) (.float .f64 0)
    simp only [List.setIfInBounds_toArray, List.set_cons_zero, List.set_cons_succ] at h
    exact h
  · iterate 9 refine grown_set ?_ (.inl rfl) _
    exact grown_refl _ _

def cs (c : Co) : Value := .agg #[.float .f64 c.b0, .float .f64 c.b1, .float .f64 c.b2, .float .f64 c.a1, .float .f64 c.a2]
def okAll (c : Co) : Bool := okc c.b0 && okc c.b1 && okc c.b2 && okc c.a1 && okc c.a2

def NewPost (w : World) (c : Co) (e : Ending) (w' : World) : Prop := w.grownBy w' none ∧
  ((okAll c = true ∧ ∃ bp, w.heap.size ≤ bp ∧ e = .returned (.tuple #[.pointer (some ⟨bp, 0, none⟩), .int .i64 0]) ∧ FAt w' bp c rest0) ∨
   (okAll c = false ∧ e = .returned (.tuple #[.pointer none, .int .i64 3])))

theorem new_at (a : World) (o : Obj) (n : Nat) (h : n = a.heap.size) : (a.alloc o).heap[n]? = some o := by subst h; exact heap_alloc_new _ _

set_option maxHeartbeats 1000000 in
theorem new_ok (c : Co) (w : World) (h0 : okc c.b0 = true) (h1 : okc c.b1 = true) (h2 : okc c.b2 = true) (h3 : okc c.a1 = true) (h4 : okc c.a2 = true) :
    Calls Try.prog 34 #[.agg #[.float .f64 c.b0, .float .f64 c.b1, .float .f64 c.b2, .float .f64 c.a1, .float .f64 c.a2]] w fun e w' =>
      e = .returned (.tuple #[.pointer (some ⟨w.heap.size + 2, 0, none⟩), .int .i64 0]) ∧ FAt w' (w.heap.size + 2) c rest0 ∧ w.grownBy w' none := by
  go_enter Try.func34, Try.ntmps34
  go_wp2_with fail
  refine wp_loop_rounds 6 ?_
  go_wp2_with (first
    | rw [rounds_succ]
    | (go_at_call 40; refine (wrong_calls _ _).mono ?_; rintro e w' ⟨rfl, rfl⟩; simp only [h0, h1, h2, h3, h4, Bool.not_true]))
  go_ret2
  refine ⟨rfl, ⟨0, 0, 0, 0, ?_, by rw [cn_zero]; rfl⟩, ?_⟩
  · unfold FBlk
    exact new_at _ _ _ (by simp)
  · exact grown_alloc (grown_alloc (grown_alloc (grown_refl _ _) _) _) _

theorem okAll_cases {c : Co} (h : okAll c = false) : okc c.b0 = false ∨ (okc c.b0 = true ∧ okc c.b1 = false) ∨ (okc c.b0 = true ∧ okc c.b1 = true ∧ okc c.b2 = false) ∨
    (okc c.b0 = true ∧ okc c.b1 = true ∧ okc c.b2 = true ∧ okc c.a1 = false) ∨ (okc c.b0 = true ∧ okc c.b1 = true ∧ okc c.b2 = true ∧ okc c.a1 = true ∧ okc c.a2 = false) := by
  unfold okAll at h
  revert h
  cases okc c.b0 <;> cases okc c.b1 <;> cases okc c.b2 <;> cases okc c.a1 <;> cases okc c.a2 <;> simp

set_option maxHeartbeats 2000000 in
theorem new_no (c : Co) (w : World) (h : okAll c = false) :
    Calls Try.prog 34 #[.agg #[.float .f64 c.b0, .float .f64 c.b1, .float .f64 c.b2, .float .f64 c.a1, .float .f64 c.a2]] w fun e w' =>
      e = .returned (.tuple #[.pointer none, .int .i64 3]) ∧ w.grownBy w' none := by
  rcases okAll_cases h with h0 | ⟨h0, h1⟩ | ⟨h0, h1, h2⟩ | ⟨h0, h1, h2, h3⟩ | ⟨h0, h1, h2, h3, h4⟩ <;> clear h
  all_goals
    go_enter Try.func34, Try.ntmps34
    go_wp2_with fail
    refine wp_loop_rounds 6 ?_
    go_wp2_with (first
      | rw [rounds_succ]
      | (go_at_call 40; refine (wrong_calls _ _).mono ?_; rintro e w' ⟨rfl, rfl⟩; simp only [*, Bool.not_true, Bool.not_false]))
    go_ret2
    exact ⟨rfl, grown_alloc (grown_alloc (grown_refl _ _) _) _⟩

set_option maxHeartbeats 2000000 in
theorem refwrong_ok (c : Co) (w : World) (h : okAll c = true) :
    Calls Try.prog 28 #[.agg #[.float .f64 c.b0, .float .f64 c.b1, .float .f64 c.b2, .float .f64 c.a1, .float .f64 c.a2]] w fun e w' =>
      e = .returned (.bool false) ∧ w.grownBy w' none := by
  unfold okAll at h
  simp only [Bool.and_eq_true] at h
  obtain ⟨⟨⟨⟨h0, h1⟩, h2⟩, h3⟩, h4⟩ := h
  unfold okc at h0 h1 h2 h3 h4
  simp only [Bool.and_eq_true] at h0 h1 h2 h3 h4
  obtain ⟨a0, b0⟩ := h0
  obtain ⟨a1, b1⟩ := h1
  obtain ⟨a2, b2⟩ := h2
  obtain ⟨a3, b3⟩ := h3
  obtain ⟨a4, b4⟩ := h4
  rw [← format_f64] at a0 b0 a1 b1 a2 b2 a3 b3 a4 b4
  go_enter Try.func28, Try.ntmps28
  go_wp2_with fail
  refine wp_loop_rounds 6 ?_
  go_wp2_with (rw [rounds_succ])
  go_ret
  exact ⟨rfl, grown_alloc (grown_alloc (grown_refl _ _) _) _⟩

theorem okc_true {x : Nat} (h : okc x = true) : (FloatKind.f64.format.order x 13929633647456944128 == some .gt || FloatKind.f64.format.order x 13929633647456944128 == some .eq) = true ∧
    (FloatKind.f64.format.order x 4706261610602168320 == some .lt || FloatKind.f64.format.order x 4706261610602168320 == some .eq) = true := by
  unfold okc at h
  simpa [Bool.and_eq_true, format_f64] using h

theorem okc_false {x : Nat} (h : okc x = false) : (FloatKind.f64.format.order x 13929633647456944128 == some .gt || FloatKind.f64.format.order x 13929633647456944128 == some .eq) = false ∨
    ((FloatKind.f64.format.order x 13929633647456944128 == some .gt || FloatKind.f64.format.order x 13929633647456944128 == some .eq) = true ∧
    (FloatKind.f64.format.order x 4706261610602168320 == some .lt || FloatKind.f64.format.order x 4706261610602168320 == some .eq) = false) := by
  unfold okc at h
  rw [format_f64]
  revert h
  generalize (D.order x 13929633647456944128 == some .gt || D.order x 13929633647456944128 == some .eq) = A
  generalize (D.order x 4706261610602168320 == some .lt || D.order x 4706261610602168320 == some .eq) = B
  cases A <;> cases B <;> simp

set_option maxHeartbeats 4000000 in
theorem refwrong_no (c : Co) (w : World) (h : okAll c = false) :
    Calls Try.prog 28 #[.agg #[.float .f64 c.b0, .float .f64 c.b1, .float .f64 c.b2, .float .f64 c.a1, .float .f64 c.a2]] w fun e w' =>
      e = .returned (.bool true) ∧ w.grownBy w' none := by
  rcases okAll_cases h with h0 | ⟨h0, h1⟩ | ⟨h0, h1, h2⟩ | ⟨h0, h1, h2, h3⟩ | ⟨h0, h1, h2, h3, h4⟩ <;> clear h
  · rcases okc_false h0 with a0 | ⟨a0, b0⟩
    all_goals
      clear h0
      go_enter Try.func28, Try.ntmps28
      go_wp2_with fail
      refine wp_loop_rounds 6 ?_
      go_wp2_with (rw [rounds_succ])
      go_ret
      exact ⟨rfl, grown_alloc (grown_alloc (grown_refl _ _) _) _⟩
  · obtain ⟨a0, b0⟩ := okc_true h0
    rcases okc_false h1 with a1 | ⟨a1, b1⟩
    all_goals
      clear h0 h1
      go_enter Try.func28, Try.ntmps28
      go_wp2_with fail
      refine wp_loop_rounds 6 ?_
      go_wp2_with (rw [rounds_succ])
      go_ret
      exact ⟨rfl, grown_alloc (grown_alloc (grown_refl _ _) _) _⟩
  · obtain ⟨a0, b0⟩ := okc_true h0
    obtain ⟨a1, b1⟩ := okc_true h1
    rcases okc_false h2 with a2 | ⟨a2, b2⟩
    all_goals
      clear h0 h1 h2
      go_enter Try.func28, Try.ntmps28
      go_wp2_with fail
      refine wp_loop_rounds 6 ?_
      go_wp2_with (rw [rounds_succ])
      go_ret
      exact ⟨rfl, grown_alloc (grown_alloc (grown_refl _ _) _) _⟩
  · obtain ⟨a0, b0⟩ := okc_true h0
    obtain ⟨a1, b1⟩ := okc_true h1
    obtain ⟨a2, b2⟩ := okc_true h2
    rcases okc_false h3 with a3 | ⟨a3, b3⟩
    all_goals
      clear h0 h1 h2 h3
      go_enter Try.func28, Try.ntmps28
      go_wp2_with fail
      refine wp_loop_rounds 6 ?_
      go_wp2_with (rw [rounds_succ])
      go_ret
      exact ⟨rfl, grown_alloc (grown_alloc (grown_refl _ _) _) _⟩
  · obtain ⟨a0, b0⟩ := okc_true h0
    obtain ⟨a1, b1⟩ := okc_true h1
    obtain ⟨a2, b2⟩ := okc_true h2
    obtain ⟨a3, b3⟩ := okc_true h3
    rcases okc_false h4 with a4 | ⟨a4, b4⟩
    all_goals
      clear h0 h1 h2 h3 h4
      go_enter Try.func28, Try.ntmps28
      go_wp2_with fail
      refine wp_loop_rounds 6 ?_
      go_wp2_with (rw [rounds_succ])
      go_ret
      exact ⟨rfl, grown_alloc (grown_alloc (grown_refl _ _) _) _⟩

/-! LikeAll -/

set_option maxHeartbeats 1000000 in
theorem likeall_len (a b : Option Addr) (la lb ca cb : Nat) (w : World) (h : la ≠ lb) : Calls Try.prog 11 #[.slice a la ca, .slice b lb cb] w fun e w' => e = .returned (.bool false) ∧ w = w' := by
  have h1 : ((la : Int) == (lb : Int)) = false := by simp; omega
  have h2 : ((la : Int) != (lb : Int)) = true := by simp; omega
  go_enter Try.func11, Try.ntmps11
  go_wp2
  go_ret
  exact ⟨rfl, rfl⟩

/-- Two lists of words, held against each other. -/
def likeAll (a b : List Nat) : Bool := decide (a.map cn = b.map cn)

def Quiet (w : World) (v : Value) (e : Ending) (w' : World) : Prop := e = .returned v ∧ ∃ n, w' = w.drewN n

end Go.Proofs.Ytdliilmnfbgplaa.GFNew

/- Two lists of floats held against each other: LikeAll. -/
namespace Go.Proofs.Ytdliilmnfbgplaa.GFLike
open Go Go.RowKit Go.Proofs.Ytdliilmnfbgplaa.Fl Go.Proofs.Ytdliilmnfbgplaa.Fw Go.Proofs.Ytdliilmnfbgplaa.Hp Go.Proofs.Ytdliilmnfbgplaa.GFRun Go.Proofs.Ytdliilmnfbgplaa.GFNew
set_option linter.unusedVariables false

theorem likeAll_snoc {xs ys : List Nat} {k : Nat} {x y : Nat} (hx : xs[k]? = some x) (hy : ys[k]? = some y) (h : likeAll (xs.take k) (ys.take k) = true) : likeAll (xs.take (k + 1)) (ys.take (k + 1)) = likeB x y := by
  obtain ⟨h1, h2⟩ := List.getElem?_eq_some_iff.1 hx
  obtain ⟨h3, h4⟩ := List.getElem?_eq_some_iff.1 hy
  unfold likeAll at *
  simp only [decide_eq_true_eq] at h
  rw [List.take_succ_eq_append_getElem h1, List.take_succ_eq_append_getElem h3, List.map_append, List.map_append, h, likeB_iff, h2, h4]
  rw [Bool.eq_iff_iff]
  simp

theorem likeAll_take_false {xs ys : List Nat} {k : Nat} (h : likeAll (xs.take k) (ys.take k) = false) : likeAll xs ys = false := by
  unfold likeAll at *
  simp only [decide_eq_false_iff_not] at *
  intro e
  apply h
  rw [List.map_take, List.map_take, e]

theorem to_quiet {f : FuncId} {args : Array Value} {w : World} {n : Nat} {v : Value} (h : Calls Try.prog f args (w.drewN n) fun e w' => e = .returned v ∧ w.drewN n = w') : Calls Try.prog f args (w.drewN n) fun e w'' => e = .returned v ∧ ∃ m, w'' = w.drewN m :=
  Calls.quiet_of_same (h.mono fun _ _ ⟨h1, h2⟩ => ⟨h1, h2.symm⟩)

set_option maxHeartbeats 1000000 in
theorem likeall_walk (b1 o1 c1 b2 o2 c2 n : Nat) (xs ys : List Nat) (w : World) (hx : xs.length = n) (hy : ys.length = n) (hn : n < 9223372036854775808)
    (h1 : ∀ i x, xs[i]? = some x → w.cell? ⟨b1, o1 + i, none⟩ = some (.float .f64 x)) (h2 : ∀ i x, ys[i]? = some x → w.cell? ⟨b2, o2 + i, none⟩ = some (.float .f64 x)) :
    Calls Try.prog 11 #[.slice (some ⟨b1, o1, none⟩) n c1, .slice (some ⟨b2, o2, none⟩) n c2] w fun e w' => Quiet w (.bool (likeAll xs ys)) e w' := by
  go_enter Try.func11, Try.ntmps11
  go_wp2_with fail
  go_loopw [13] (fun i wr => ∃ k m : Nat, k ≤ n ∧ i = .int .i64 k ∧ Hid (wr = w.drewN m) ∧ Hid (likeAll (xs.take k) (ys.take k) = true)) (fun i _ => n - (intOf i).toNat)
  case atStart => exact ⟨0, 0, Nat.zero_le _, rfl, rfl, by unfold Hid likeAll; simp⟩
  case round =>
    obtain ⟨k, m, hk, rfl, hw, HL⟩ := hrel
    by_cases hlt : k < n
    · obtain ⟨x, hxk⟩ : ∃ x, xs[k]? = some x := ⟨xs[k]'(by omega), List.getElem?_eq_getElem (by omega)⟩
      obtain ⟨y, hyk⟩ : ∃ x, ys[k]? = some x := ⟨ys[k]'(by omega), List.getElem?_eq_getElem (by omega)⟩
      have f1 : wr.cell? ⟨b1, o1 + k, none⟩ = some (.float .f64 x) := by rw [hw.out]; exact h1 k x hxk
      have f2 : wr.cell? ⟨b2, o2 + k, none⟩ = some (.float .f64 y) := by rw [hw.out]; exact h2 k y hyk
      have HS := Lib.hid (likeAll_snoc hxk hyk HL.out)
      have HX := Lib.hid hx
      have HY := Lib.hid hy
      clear hx hy h1 h2 hxk hyk
      by_cases hl : likeB x y = true
      · go_wp2_with fail
        go_quiet ((go_at_call 20; exact to_quiet (like_calls _ _ _)))
        simp only [hl]
        go_wp2_with fail
        go_roundw
        case rel => exact ⟨k + 1, m + nq, by omega, by go_num, by unfold Hid; rw [hw.out, World.drewN_drewN], by unfold Hid; rw [HS.out]; exact hl⟩
        case measure => simp [intOf]; omega
      · have hl' : likeB x y = false := by simpa using hl
        clear hl
        go_wp2_with fail
        go_quiet ((go_at_call 20; exact to_quiet (like_calls _ _ _)))
        simp only [hl']
        go_wp2_with fail
        go_ret
        have h0 : likeAll xs ys = false := likeAll_take_false (k := k + 1) (by rw [HS.out]; exact hl')
        rw [h0]
        exact ⟨rfl, m + nq, by rw [hw.out, World.drewN_drewN]⟩
    · obtain rfl : k = n := by omega
      have h0 : Hid (likeAll xs ys = true) := by
        have := HL.out
        rwa [List.take_of_length_le (by omega), List.take_of_length_le (by omega)] at this
      clear hx hy h1 h2
      go_wp2_with fail
      go_ret
      rw [h0.out]
      exact ⟨rfl, _, hw.out⟩

set_option maxHeartbeats 1000000 in
theorem likeall_nil (a1 a2 : Option Addr) (c1 c2 : Nat) (w : World) :
    Calls Try.prog 11 #[.slice a1 0 c1, .slice a2 0 c2] w fun e w' => Quiet w (.bool (likeAll [] [])) e w' := by
  go_enter Try.func11, Try.ntmps11
  go_wp2_with fail
  refine wp_loop_once ?_
  go_wp2_with fail
  go_ret
  exact ⟨rfl, 0, rfl⟩

end Go.Proofs.Ytdliilmnfbgplaa.GFLike

/- The table of sines, by turning a point; what the two functions that make it answer. -/
namespace Go.Proofs.Ytdliilmnfbgplaa.GVTab
open Go Go.RowKit Go.Proofs.Ytdliilmnfbgplaa.Rnd Go.Proofs.Ytdliilmnfbgplaa.Flo Go.Proofs.Ytdliilmnfbgplaa.Flc
set_option linter.unusedVariables false

def tc : Nat := 4607179706000002317
def ts : Nat := 4582730748936808062
def fone : Nat := 4607182418800017408

def turned : Nat → Nat × Nat
  | 0 => (fone, 0)
  | n + 1 =>
    let z := turned n
    (((D.sub ((D.mul z.1 tc).getD 0) ((D.mul z.2 ts).getD 0)).getD 0), ((D.add ((D.mul z.1 ts).getD 0) ((D.mul z.2 tc).getD 0)).getD 0))

def stepOk (n : Nat) : Bool :=
  let z := turned n
  (D.mul z.1 tc).isSome && (D.mul z.2 ts).isSome && (D.mul z.1 ts).isSome && (D.mul z.2 tc).isSome && (D.sub ((D.mul z.1 tc).getD 0) ((D.mul z.2 ts).getD 0)).isSome && (D.add ((D.mul z.1 ts).getD 0) ((D.mul z.2 tc).getD 0)).isSome &&
    decide (rg z.2 ≤ fone)

theorem steps : (List.range 64).all stepOk = true := by decide +kernel

theorem of_some {o : Option Nat} (h : o.isSome = true) : o = some (o.getD 0) := by cases o <;> simp_all

/-- One step of the turning. -/
theorem step_at {n : Nat} (h : n < 64) : ∃ re im p q r s re' im', turned n = (re, im) ∧ D.mul re tc = some p ∧ D.mul im ts = some q ∧ D.mul re ts = some r ∧ D.mul im tc = some s ∧ D.sub p q = some re' ∧ D.add r s = some im' ∧ turned (n + 1) = (re', im') ∧ rg im ≤ fone := by
  have h1 := List.all_eq_true.1 steps n (List.mem_range.2 h)
  unfold stepOk at h1
  simp only [Bool.and_eq_true, decide_eq_true_eq] at h1
  obtain ⟨⟨⟨⟨⟨⟨a1, a2⟩, a3⟩, a4⟩, a5⟩, a6⟩, a7⟩ := h1
  exact ⟨_, _, _, _, _, _, _, _, rfl, of_some a1, of_some a2, of_some a3, of_some a4, of_some a5, of_some a6, rfl, a7⟩

def quarterW (k : Nat) : Nat := if k = 64 then fone else (turned k).2

theorem quarter_le {k : Nat} (h : k ≤ 64) : rg (quarterW k) ≤ fone := by
  unfold quarterW
  by_cases h1 : k = 64
  · rw [if_pos h1]; decide
  · rw [if_neg h1]
    obtain ⟨re, im, _, _, _, _, _, _, h2, _, _, _, _, _, _, _, h3⟩ := step_at (n := k) (by omega)
    rw [h2]
    exact h3

set_option maxHeartbeats 1000000 in
set_option maxRecDepth 100000 in
theorem ref_turned (k : Nat) (w : World) (hk : k < 64) : Calls Try.prog 46 #[.int .i64 k] w fun e w' => e = .returned (.tuple #[.float .f64 (turned k).1, .float .f64 (turned k).2]) ∧ w = w' := by
  go_enter Try.func46, Try.ntmps46
  go_wp2_with fail
  go_loop [4, 5, 6] (fun x y i => ∃ j : Nat, j ≤ k ∧ i = .int .i64 j ∧ x = .float .f64 (turned j).1 ∧ y = .float .f64 (turned j).2) (fun _ _ i => k - (intOf i).toNat)
  case atStart => exact ⟨0, Nat.zero_le _, rfl, rfl, rfl⟩
  case round =>
    obtain ⟨j, hj, rfl, rfl, rfl⟩ := hrel
    by_cases hlt : j < k
    · obtain ⟨re, im, p, q, r, s, re', im', h0, h1, h2, h3, h4, h5, h6, h7, _⟩ := step_at (n := j) (by omega)
      rw [h0]
      have HT := Lib.hid h7
      clear h0 h7
      have a1 : FloatKind.f64.format.mul re 4607179706000002317 = some p := h1
      have a2 : FloatKind.f64.format.mul im 4582730748936808062 = some q := h2
      have a3 : FloatKind.f64.format.mul re 4582730748936808062 = some r := h3
      have a4 : FloatKind.f64.format.mul im 4607179706000002317 = some s := h4
      have a5 : FloatKind.f64.format.sub p q = some re' := h5
      have a6 : FloatKind.f64.format.add r s = some im' := h6
      clear h1 h2 h3 h4 h5 h6
      go_wp2_with fail
      go_round
      case rel => exact ⟨j + 1, by omega, by go_num, by rw [HT.out], by rw [HT.out]⟩
      case measure => simp [intOf]; omega
    · obtain rfl : j = k := by omega
      go_wp2_with fail
      go_ret2
      exact ⟨rfl, rfl⟩

set_option maxHeartbeats 1000000 in
set_option maxRecDepth 100000 in
theorem ref_quarter (k : Nat) (w : World) (hk : k ≤ 64) : Calls Try.prog 45 #[.int .i64 k] w fun e w' => e = .returned (.float .f64 (quarterW k)) ∧ w = w' := by
  unfold quarterW
  by_cases h : k = 64
  · subst h
    go_enter Try.func45, Try.ntmps45
    go_wp2_with fail
    go_ret
    exact ⟨rfl, rfl⟩
  · have h1 : ((k : Int) == 64) = false := by rw [beq_eq_false_iff_ne]; omega
    rw [if_neg h]
    go_enter Try.func45, Try.ntmps45
    go_wp2_with (go_at_call 46; refine (ref_turned k _ (by omega)).mono ?_; rintro e w1 ⟨rfl, rfl⟩)
    go_ret
    exact ⟨rfl, rfl⟩

set_option maxHeartbeats 1000000 in
set_option maxRecDepth 100000 in
theorem quarter (k : Nat) (w : World) (hk : k ≤ 64) : Calls Try.prog 84 #[.int .u32 k] w fun e w' => e = .returned (.float .f64 (quarterW k)) ∧ w = w' := by
  unfold quarterW
  by_cases h : k = 64
  · subst h
    go_enter Try.func84, Try.ntmps84
    go_wp2_with fail
    go_ret
    exact ⟨rfl, rfl⟩
  · have h1 : ((k : Int) == 64) = false := by rw [beq_eq_false_iff_ne]; omega
    rw [if_neg h]
    go_enter Try.func84, Try.ntmps84
    go_wp2_with fail
    go_loop [3, 7] (fun z i => ∃ j : Nat, j ≤ k ∧ i = .int .u32 j ∧ z = .complex .f64 (turned j).1 (turned j).2) (fun _ i => k - (intOf i).toNat)
    case atStart => exact ⟨0, Nat.zero_le _, rfl, rfl⟩
    case round =>
      obtain ⟨j, hj, rfl, rfl⟩ := hrel
      by_cases hlt : j < k
      · obtain ⟨re, im, p, q, r, s, re', im', h0, h1, h2, h3, h4, h5, h6, h7, _⟩ := step_at (n := j) (by omega)
        rw [h0]
        have HT := Lib.hid h7
        clear h0 h7
        have hcm : ∀ (w : World) (t : TypeId), (binOp .mul t (.complex .f64 re im) (.complex .f64 4607179706000002317 4582730748936808062)).run Try.prog w = .ok (.complex .f64 re' im') w := fun w t => Fd.run_cmul w t h1 h2 h3 h4 h5 h6
        clear h1 h2 h3 h4 h5 h6
        go_wp2_with fail
        go_round
        case rel => exact ⟨j + 1, by omega, by go_num, by rw [HT.out]⟩
        case measure => simp [intOf]; omega
      · obtain rfl : j = k := by omega
        go_wp2_with fail
        go_ret
        exact ⟨rfl, rfl⟩

end Go.Proofs.Ytdliilmnfbgplaa.GVTab

/- Sine, the program's and the reference's. -/
namespace Go.Proofs.Ytdliilmnfbgplaa.GVSine
open Go Go.RowKit Go.Proofs.Ytdliilmnfbgplaa.Rnd Go.Proofs.Ytdliilmnfbgplaa.Flo Go.Proofs.Ytdliilmnfbgplaa.Flc Go.Proofs.Ytdliilmnfbgplaa.GVTab
set_option linter.unusedVariables false

def fneg (x : Nat) : Nat := Op.negFloat .f64 x

@[go_sem] theorem unary_neg_float (x : Nat) : Op.unary .neg (.float .f64 x) = pure (.float .f64 (fneg x)) := rfl

theorem rg_neg (x : Nat) : rg (fneg x) = rg x := by
  show (x ^^^ 2 ^ 63) % 2 ^ 63 = x % 2 ^ 63
  rw [Nat.xor_mod_two_pow]
  simp

/-- The sine of so many 256ths of a circle. -/
def atW (j : Nat) : Nat := if j ≤ 64 then quarterW j else if j ≤ 128 then quarterW (128 - j) else if j ≤ 192 then fneg (quarterW (j - 128)) else fneg (quarterW (256 - j))

theorem at_le {j : Nat} (h : j < 256) : rg (atW j) ≤ fone := by
  unfold atW
  split
  · exact quarter_le (by omega)
  · split
    · exact quarter_le (by omega)
    · split
      · rw [rg_neg]; exact quarter_le (by omega)
      · rw [rg_neg]; exact quarter_le (by omega)

theorem and_mask (k b : Nat) (hk : k < 4294967296) (hb : b < 32) : bits .and .u32 (k : Int) ((2 ^ b - 1 : Nat) : Int) = ((k % 2 ^ b : Nat) : Int) := by
  unfold bits
  simp only
  have hp : 2 ^ b < 4294967296 := Nat.lt_of_lt_of_le (Nat.pow_lt_pow_right (by decide) hb) (by decide)
  have hq := Nat.two_pow_pos b
  have h0 : IntKind.u32.bits = 32 := rfl
  have e1 : ((BitVec.ofInt IntKind.u32.bits (k : Int)) &&& (BitVec.ofInt IntKind.u32.bits ((2 ^ b - 1 : Nat) : Int))).toNat = k % 2 ^ b := by
    rw [BitVec.toNat_and, BitVec.ofInt_natCast, BitVec.ofInt_natCast, BitVec.toNat_ofNat, BitVec.toNat_ofNat, h0, Nat.mod_eq_of_lt (a := k) (by omega), Nat.mod_eq_of_lt (a := 2 ^ b - 1) (by omega), Nat.and_two_pow_sub_one_eq_mod]
  rw [e1]
  have h2 : k % 2 ^ b < 2 ^ b := Nat.mod_lt _ hq
  generalize k % 2 ^ b = q at *
  unfold IntKind.wrap
  simp [IntKind.signed, IntKind.bits]
  omega

set_option maxHeartbeats 400000 in
set_option maxRecDepth 100000 in
theorem at_calls (k : Nat) (w : World) (hk : k < 4294967296) : Calls Try.prog 83 #[.int .u32 k] w fun e w' => e = .returned (.float .f64 (atW (k % 256))) ∧ w = w' := by
  have hand : bits .and .u32 (k : Int) 255 = ((k % 256 : Nat) : Int) := and_mask k 8 hk (by decide)
  obtain ⟨j, hj⟩ : ∃ j, j = k % 256 := ⟨_, rfl⟩
  rw [← hj] at hand ⊢
  have hj2 : j < 256 := by omega
  clear hj
  unfold atW
  by_cases h1 : j ≤ 64
  · have a1 : (j : Int) ≤ 64 := by omega
    rw [if_pos h1]
    obtain ⟨q, hq⟩ : ∃ q, quarterW (j) = q := ⟨_, rfl⟩
    have hc := fun w => quarter (j) w (by omega)
    rw [hq] at hc ⊢
    have HC := Lib.hid hc
    clear hc hq
    go_enter Try.func83, Try.ntmps83
    go_wp2_with (go_at_call 84; refine (HC.out _).mono ?_; rintro e w1 ⟨rfl, rfl⟩)
    go_ret
    exact ⟨rfl, rfl⟩
  rw [if_neg h1]
  have a1 : ¬ (j : Int) ≤ 64 := by omega
  by_cases h2 : j ≤ 128
  · have a2 : (j : Int) ≤ 128 := by omega
    have a3 : ((128 : Int) - j) = ((128 - j : Nat) : Int) := by omega
    rw [if_pos h2]
    obtain ⟨q, hq⟩ : ∃ q, quarterW (128 - j) = q := ⟨_, rfl⟩
    have hc := fun w => quarter (128 - j) w (by omega)
    rw [hq] at hc ⊢
    have HC := Lib.hid hc
    clear hc hq
    go_enter Try.func83, Try.ntmps83
    go_wp2_with (go_at_call 84; refine (HC.out _).mono ?_; rintro e w1 ⟨rfl, rfl⟩)
    go_ret
    exact ⟨rfl, rfl⟩
  rw [if_neg h2]
  have a2 : ¬ (j : Int) ≤ 128 := by omega
  by_cases h3 : j ≤ 192
  · have a3 : (j : Int) ≤ 192 := by omega
    have a4 : ((j : Int) - 128) = ((j - 128 : Nat) : Int) := by omega
    rw [if_pos h3]
    obtain ⟨q, hq⟩ : ∃ q, quarterW (j - 128) = q := ⟨_, rfl⟩
    have hc := fun w => quarter (j - 128) w (by omega)
    rw [hq] at hc ⊢
    have HC := Lib.hid hc
    clear hc hq
    go_enter Try.func83, Try.ntmps83
    go_wp2_with (go_at_call 84; refine (HC.out _).mono ?_; rintro e w1 ⟨rfl, rfl⟩)
    go_ret
    exact ⟨rfl, rfl⟩
  rw [if_neg h3]
  have a3 : ¬ (j : Int) ≤ 192 := by omega
  have a4 : ((256 : Int) - j) = ((256 - j : Nat) : Int) := by omega
  · obtain ⟨q, hq⟩ : ∃ q, quarterW (256 - j) = q := ⟨_, rfl⟩
    have hc := fun w => quarter (256 - j) w (by omega)
    rw [hq] at hc ⊢
    have HC := Lib.hid hc
    clear hc hq
    go_enter Try.func83, Try.ntmps83
    go_wp2_with (go_at_call 84; refine (HC.out _).mono ?_; rintro e w1 ⟨rfl, rfl⟩)
    go_ret
    exact ⟨rfl, rfl⟩

theorem tmod_nat (k n : Nat) : Int.tmod (k : Int) (n : Int) = ((k % n : Nat) : Int) := rfl

set_option maxHeartbeats 400000 in
set_option maxRecDepth 100000 in
theorem ref_at_low (k : Nat) (w : World) (hk : k ≤ 128) : Calls Try.prog 44 #[.int .i64 k] w fun e w' => e = .returned (.float .f64 (atW k)) ∧ w = w' := by
  have hm : Int.tmod (k : Int) 256 = (k : Int) := by
    have := tmod_nat k 256
    rwa [Nat.mod_eq_of_lt (by omega)] at this
  have h0 : ¬ (128 : Int) < k := by omega
  unfold atW
  by_cases h1 : k ≤ 64
  · have a1 : ¬ (64 : Int) < k := by omega
    rw [if_pos h1]
    obtain ⟨q, hq⟩ : ∃ q, quarterW k = q := ⟨_, rfl⟩
    have hc := fun w => ref_quarter k w (by omega)
    rw [hq] at hc ⊢
    have HC := Lib.hid hc
    clear hc hq
    go_enter Try.func44, Try.ntmps44
    go_wp2_with (go_at_call 45; refine (HC.out _).mono ?_; rintro e w1 ⟨rfl, rfl⟩)
    go_ret
    exact ⟨rfl, rfl⟩
  · have a1 : (64 : Int) < k := by omega
    have a3 : ((128 : Int) - k) = ((128 - k : Nat) : Int) := by omega
    rw [if_neg h1, if_pos hk]
    obtain ⟨q, hq⟩ : ∃ q, quarterW (128 - k) = q := ⟨_, rfl⟩
    have hc := fun w => ref_quarter (128 - k) w (by omega)
    rw [hq] at hc ⊢
    have HC := Lib.hid hc
    clear hc hq
    go_enter Try.func44, Try.ntmps44
    go_wp2_with (go_at_call 45; refine (HC.out _).mono ?_; rintro e w1 ⟨rfl, rfl⟩)
    go_ret
    exact ⟨rfl, rfl⟩

theorem at_high {j : Nat} (h : 128 < j) (h2 : j < 256) : atW j = fneg (atW (j - 128)) := by
  unfold atW
  rw [if_neg (by omega), if_neg (by omega)]
  by_cases h3 : j ≤ 192
  · rw [if_pos h3, if_pos (by omega)]
  · rw [if_neg h3, if_neg (by omega), if_pos (by omega), show 128 - (j - 128) = 256 - j from by omega]

set_option maxHeartbeats 400000 in
set_option maxRecDepth 100000 in
theorem ref_at (k : Nat) (w : World) (hk : k ≤ 256) : Calls Try.prog 44 #[.int .i64 k] w fun e w' => e = .returned (.float .f64 (atW (k % 256))) ∧ w = w' := by
  by_cases h1 : k ≤ 128
  · rw [Nat.mod_eq_of_lt (by omega)]
    exact ref_at_low k w h1
  · by_cases h2 : k = 256
    · subst h2
      obtain ⟨q, hq⟩ : ∃ q, quarterW 0 = q := ⟨_, rfl⟩
      have hc := fun w => ref_quarter 0 w (by omega)
      have hz : atW (256 % 256) = q := by rw [← hq]; rfl
      rw [hz]
      rw [hq] at hc
      have HC := Lib.hid hc
      clear hc hq hz
      go_enter Try.func44, Try.ntmps44
      go_wp2_with (go_at_call 45; refine (HC.out _).mono ?_; rintro e w1 ⟨rfl, rfl⟩)
      go_ret
      exact ⟨rfl, rfl⟩
    · have hm : Int.tmod (k : Int) 256 = (k : Int) := by
        have := tmod_nat k 256
        rwa [Nat.mod_eq_of_lt (by omega)] at this
      have h0 : (128 : Int) < k := by omega
      have a4 : ((k : Int) - 128) = ((k - 128 : Nat) : Int) := by omega
      rw [Nat.mod_eq_of_lt (by omega), at_high (by omega) (by omega)]
      obtain ⟨q, hq⟩ : ∃ q, atW (k - 128) = q := ⟨_, rfl⟩
      have hc := fun w => ref_at_low (k - 128) w (by omega)
      rw [hq] at hc ⊢
      have HC := Lib.hid hc
      clear hc hq
      go_enter Try.func44, Try.ntmps44
      go_wp2_with (go_at_call 44; refine (HC.out _).mono ?_; rintro e w1 ⟨rfl, rfl⟩)
      go_ret
      exact ⟨rfl, rfl⟩

end Go.Proofs.Ytdliilmnfbgplaa.GVSine

/- Sine, the program's and the reference's. -/
namespace Go.Proofs.Ytdliilmnfbgplaa.GVSin
open Go Go.RowKit Go.Proofs.Ytdliilmnfbgplaa.Rnd Go.Proofs.Ytdliilmnfbgplaa.Flo Go.Proofs.Ytdliilmnfbgplaa.Flc Go.Proofs.Ytdliilmnfbgplaa.GVTab Go.Proofs.Ytdliilmnfbgplaa.GVSine
set_option linter.unusedVariables false

def c24 : Nat := 4715268809856909312
def ftwo : Nat := 4611686018427387904
def ffour : Nat := 4616189618054758400

theorem V_one : V fone = 2 ^ bias := by decide +kernel
theorem V_two : V ftwo = 2 * 2 ^ bias := by decide +kernel
theorem V_four : V ffour = 4 * 2 ^ bias := by decide +kernel
theorem V_c24 : V (rg c24) = 16777216 * 2 ^ bias ∧ rg c24 < top := by decide +kernel

theorem bound {x r : Nat} (h : rg x ≤ r) : V (rg x) ≤ V r := V_le.2 h

/-- What is between two of the table. -/
theorem between {a b m : Nat} (ha : rg a ≤ fone) (hb : rg b ≤ fone) (hm : m < 16777216) : ∃ d f p s, D.sub b a = some d ∧ D.div (FloatKind.f64.nearest m) c24 = some f ∧ D.mul d f = some p ∧ D.add a p = some s ∧ rg s ≤ ffour := by
  have t1 : fone < top := by decide
  have t2 : ftwo < top := by decide
  have t3 : ffour < top := by decide
  have v1 := bound ha
  have v2 := bound hb
  rw [V_one] at v1 v2
  obtain ⟨d, h1, h2⟩ := sub_le (x := b) (y := a) (r := ftwo) (by omega) (by omega) t2 (by rw [V_two]; omega)
  have hmi : ((m : Int)).natAbs = m := by omega
  obtain ⟨r1, r2⟩ := rg_int (m : Int) (by omega)
  rw [hmi] at r1
  obtain ⟨n1, n2⟩ := V_nr (n := m) (by omega)
  have hc := V_c24
  obtain ⟨f, h3, h4, _⟩ := div_leE bias_is (x := FloatKind.f64.nearest m) (y := c24) (r := fone) (t := 0) (by rw [r1]; exact n2) hc.2 (by decide) t1 (by rw [V_one, Nat.pow_zero, Nat.one_mul]) (by
    rw [r1, n1, hc.1, Nat.pow_zero, Nat.one_mul]
    exact Nat.mul_le_mul_right _ (by omega))
  obtain ⟨p, h5, h6, _⟩ := mul_leE bias_is (x := d) (y := f) (r := ftwo) (by omega) (by omega) t2 (by
    have e1 := bound h2
    have e2 := bound h4
    rw [V_one] at e2
    exact Nat.mul_le_mul e1 e2)
  obtain ⟨s, h7, h8⟩ := add_le (x := a) (y := p) (r := ffour) (by omega) (by omega) t3 (by
    have e1 := bound h6
    rw [V_two] at e1
    rw [V_four]
    omega)
  exact ⟨d, f, p, s, h1, h3, h5, h7, h8⟩

def sineW (ph : Nat) : Nat :=
  let a := atW (ph / 16777216 % 256)
  let b := atW ((ph / 16777216 + 1) % 256)
  (D.add a ((D.mul ((D.sub b a).getD 0) ((D.div (FloatKind.f64.nearest ((ph % 16777216 : Nat) : Int)) c24).getD 0)).getD 0)).getD 0

theorem sine_of {ph d f p s : Nat} (h1 : D.sub (atW ((ph / 16777216 + 1) % 256)) (atW (ph / 16777216 % 256)) = some d) (h2 : D.div (FloatKind.f64.nearest ((ph % 16777216 : Nat) : Int)) c24 = some f) (h3 : D.mul d f = some p)
    (h4 : D.add (atW (ph / 16777216 % 256)) p = some s) : sineW ph = s := by
  unfold sineW
  simp only [h1, h2, h3, h4, Option.getD_some]

set_option maxHeartbeats 400000 in
set_option maxRecDepth 100000 in
theorem sine_calls (ph : Nat) (w : World) (hp : ph < 4294967296) : Calls Try.prog 82 #[.int .u32 ph] w fun e w' => e = .returned (.float .f64 (sineW ph)) ∧ w = w' := by
  obtain ⟨d, f, p, s, h1, h2, h3, h4, _⟩ := between (a := atW (ph / 16777216 % 256)) (b := atW ((ph / 16777216 + 1) % 256)) (m := ph % 16777216) (at_le (by omega)) (at_le (by omega)) (by omega)
  rw [sine_of h1 h2 h3 h4]
  have hand : bits .and .u32 (ph : Int) 16777215 = ((ph % 16777216 : Nat) : Int) := and_mask ph 24 hp (by decide)
  have hsh : (ph : Int) / 16777216 = ((ph / 16777216 : Nat) : Int) := rfl
  obtain ⟨k, hk⟩ : ∃ k, ph / 16777216 = k := ⟨_, rfl⟩
  obtain ⟨m, hm⟩ : ∃ m, ph % 16777216 = m := ⟨_, rfl⟩
  have hk2 : k < 256 := by omega
  rw [hk] at h1 h4 hsh
  rw [hm] at h2 hand
  have A1 := Lib.hid (fun w => at_calls k w (by omega))
  obtain ⟨k1, hk1⟩ : ∃ k1, k + 1 = k1 := ⟨_, rfl⟩
  have a5 : (k : Int) + 1 = (k1 : Int) := by omega
  rw [hk1] at h1
  have A2 := Lib.hid (fun w => at_calls k1 w (by omega))
  obtain ⟨a, ha⟩ : ∃ a, atW (k % 256) = a := ⟨_, rfl⟩
  obtain ⟨b, hb⟩ : ∃ b, atW (k1 % 256) = b := ⟨_, rfl⟩
  rw [ha] at h1 h4 A1
  rw [hb] at h1 A2
  clear ha hb hk hm hk1
  have a1 : FloatKind.f64.format.sub b a = some d := h1
  have a2 : FloatKind.f64.format.div (FloatKind.f64.nearest (m : Int)) 4715268809856909312 = some f := h2
  have a3 : FloatKind.f64.format.mul d f = some p := h3
  have a4 : FloatKind.f64.format.add a p = some s := h4
  clear h1 h2 h3 h4
  obtain ⟨nm, hnm⟩ : ∃ nm, floatOfInt FloatKind.f64 (m : Int) = nm := ⟨_, rfl⟩
  have hnm2 : FloatKind.f64.nearest (m : Int) = nm := hnm
  rw [hnm2] at a2
  clear hnm2
  go_enter Try.func82, Try.ntmps82
  go_wp2_with fail
  refine (A1.out _).mono ?_
  rintro e w1 ⟨rfl, rfl⟩
  go_wp2_with fail
  refine (A2.out _).mono ?_
  rintro e w1 ⟨rfl, rfl⟩
  go_wp2_with fail
  go_ret
  exact ⟨rfl, rfl⟩

end Go.Proofs.Ytdliilmnfbgplaa.GVSin

/- The reference's Sine. -/
namespace Go.Proofs.Ytdliilmnfbgplaa.GVRsin
open Go Go.RowKit Go.Proofs.Ytdliilmnfbgplaa.Rnd Go.Proofs.Ytdliilmnfbgplaa.Flo Go.Proofs.Ytdliilmnfbgplaa.Flc Go.Proofs.Ytdliilmnfbgplaa.GVTab Go.Proofs.Ytdliilmnfbgplaa.GVSine Go.Proofs.Ytdliilmnfbgplaa.GVSin
set_option linter.unusedVariables false

set_option maxHeartbeats 400000 in
set_option maxRecDepth 100000 in
theorem ref_sine (ph : Nat) (w : World) (hp : ph < 4294967296) : Calls Try.prog 42 #[.int .u32 ph] w fun e w' => e = .returned (.float .f64 (sineW ph)) ∧ w = w' := by
  obtain ⟨d, f, p, s, h1, h2, h3, h4, _⟩ := between (a := atW (ph / 16777216 % 256)) (b := atW ((ph / 16777216 + 1) % 256)) (m := ph % 16777216) (at_le (by omega)) (at_le (by omega)) (by omega)
  rw [sine_of h1 h2 h3 h4]
  have hand : Int.tmod (ph : Int) 16777216 = ((ph % 16777216 : Nat) : Int) := tmod_nat ph 16777216
  have hsh : Int.tdiv (ph : Int) 16777216 = ((ph / 16777216 : Nat) : Int) := rfl
  obtain ⟨k, hk⟩ : ∃ k, ph / 16777216 = k := ⟨_, rfl⟩
  obtain ⟨m, hm⟩ : ∃ m, ph % 16777216 = m := ⟨_, rfl⟩
  have hk2 : k < 256 := by omega
  have hm2 : m < 16777216 := by omega
  rw [hk] at h1 h4 hsh
  rw [hm] at h2 hand
  have A1 := Lib.hid (fun w => ref_at k w (by omega))
  obtain ⟨k1, hk1⟩ : ∃ k1, k + 1 = k1 := ⟨_, rfl⟩
  have a5 : (k : Int) + 1 = (k1 : Int) := by omega
  rw [hk1] at h1
  have A2 := Lib.hid (fun w => ref_at k1 w (by omega))
  obtain ⟨a, ha⟩ : ∃ a, atW (k % 256) = a := ⟨_, rfl⟩
  obtain ⟨b, hb⟩ : ∃ b, atW (k1 % 256) = b := ⟨_, rfl⟩
  rw [ha] at h1 h4 A1
  rw [hb] at h1 A2
  clear ha hb hk hm hk1
  have a1 : FloatKind.f64.format.sub b a = some d := h1
  have a2 : FloatKind.f64.format.div (FloatKind.f64.nearest (m : Int)) 4715268809856909312 = some f := h2
  have a3 : FloatKind.f64.format.mul d f = some p := h3
  have a4 : FloatKind.f64.format.add a p = some s := h4
  clear h1 h2 h3 h4
  obtain ⟨nm, hnm⟩ : ∃ nm, floatOfInt FloatKind.f64 (m : Int) = nm := ⟨_, rfl⟩
  have hnm2 : FloatKind.f64.nearest (m : Int) = nm := hnm
  rw [hnm2] at a2
  clear hnm2
  go_enter Try.func42, Try.ntmps42
  go_wp2_with fail
  refine (A1.out _).mono ?_
  rintro e w1 ⟨rfl, rfl⟩
  go_wp2_with fail
  refine (A2.out _).mono ?_
  rintro e w1 ⟨rfl, rfl⟩
  go_wp2_with fail
  go_ret
  exact ⟨rfl, rfl⟩

end Go.Proofs.Ytdliilmnfbgplaa.GVRsin

/- Shape, the program's and the reference's. -/
namespace Go.Proofs.Ytdliilmnfbgplaa.GVShape
open Go Go.RowKit Go.Proofs.Ytdliilmnfbgplaa.Rnd Go.Proofs.Ytdliilmnfbgplaa.Flo Go.Proofs.Ytdliilmnfbgplaa.Flc Go.Proofs.Ytdliilmnfbgplaa.GVTab Go.Proofs.Ytdliilmnfbgplaa.GVSine Go.Proofs.Ytdliilmnfbgplaa.GVSin Go.Proofs.Ytdliilmnfbgplaa.GVRsin
set_option linter.unusedVariables false

def c31 : Nat := 4746794007248502784
def c30 : Nat := 4742290407621132288
def fminus : Nat := 13830554455654793216
theorem V_c31 : V (rg c31) = 2147483648 * 2 ^ bias ∧ rg c31 < top := by decide +kernel
theorem V_c30 : V (rg c30) = 1073741824 * 2 ^ bias ∧ rg c30 < top := by decide +kernel

/-- A whole number by one that is no smaller: within one. -/
theorem whole_div {z : Int} {n c : Nat} (hz : z.natAbs ≤ n) (hn : n < 2 ^ 53) (hc : V (rg c) = n * 2 ^ bias ∧ rg c < top) (h0 : 0 < rg c) : ∃ q, D.div (FloatKind.f64.nearest z) c = some q ∧ rg q ≤ fone := by
  have t1 : fone < top := by decide
  obtain ⟨r1, r2⟩ := rg_int z (by omega)
  obtain ⟨n1, n2⟩ := V_nr (n := z.natAbs) (by omega)
  obtain ⟨f, h3, h4, _⟩ := div_leE bias_is (x := FloatKind.f64.nearest z) (y := c) (r := fone) (t := 0) (by rw [r1]; exact n2) hc.2 h0 t1 (by rw [V_one, Nat.pow_zero, Nat.one_mul]) (by
    rw [r1, n1, hc.1, Nat.pow_zero, Nat.one_mul]
    exact Nat.mul_le_mul_right _ hz)
  exact ⟨f, h3, h4⟩

def sawZ (ph : Nat) : Int := if ph < 2147483648 then ph else (ph : Int) - 4294967296
def triZ (ph : Nat) : Int := if ph ≤ 1073741824 then ph else if ph ≤ 3221225472 then 2147483648 - (ph : Int) else (ph : Int) - 4294967296

def shapeW (k : Int) (ph : Nat) : Nat :=
  if k = 1 then sineW ph else if k = 2 then (D.div (FloatKind.f64.nearest (sawZ ph)) c31).getD 0 else if k = 3 then (if ph < 2147483648 then fone else fminus)
  else if k = 4 then (D.div (FloatKind.f64.nearest (triZ ph)) c30).getD 0 else 0
def shapeE (k : Int) : Int := if k = 1 ∨ k = 2 ∨ k = 3 ∨ k = 4 then 0 else 1

theorem saw_le (ph : Nat) (hp : ph < 4294967296) : (sawZ ph).natAbs ≤ 2147483648 := by unfold sawZ; split <;> omega
theorem tri_le (ph : Nat) (hp : ph < 4294967296) : (triZ ph).natAbs ≤ 1073741824 := by unfold triZ; split <;> (try split) <;> omega

theorem saw_some (ph : Nat) (hp : ph < 4294967296) : ∃ q, D.div (FloatKind.f64.nearest (sawZ ph)) c31 = some q ∧ rg q ≤ fone := whole_div (saw_le ph hp) (by decide) V_c31 (by decide)
theorem tri_some (ph : Nat) (hp : ph < 4294967296) : ∃ q, D.div (FloatKind.f64.nearest (triZ ph)) c30 = some q ∧ rg q ≤ fone := whole_div (tri_le ph hp) (by decide) V_c30 (by decide)

theorem wrap_saw (ph : Nat) (hp : ph < 4294967296) : IntKind.i32.wrap (ph : Int) = sawZ ph := by
  unfold IntKind.wrap sawZ
  simp [IntKind.signed, IntKind.bits]
  split <;> split <;> omega

theorem wrap_u32 (n : Nat) : IntKind.u32.wrap (n : Int) = ((n % 4294967296 : Nat) : Int) := by
  unfold IntKind.wrap
  simp [IntKind.signed, IntKind.bits]

/-- The program's way to the triangle. -/
theorem tri_way (ph : Nat) (hp : ph < 4294967296) : (0 ≤ sawZ ((ph + 1073741824) % 4294967296) ∧ sawZ ((ph + 1073741824) % 4294967296) - 1073741824 = triZ ph) ∨ (sawZ ((ph + 1073741824) % 4294967296) < 0 ∧ -(sawZ ((ph + 1073741824) % 4294967296)) - 1073741824 = triZ ph) := by
  unfold sawZ triZ
  split <;> split <;> (try split) <;> omega

set_option maxHeartbeats 400000 in
set_option maxRecDepth 100000 in
theorem shape_calls (k : Int) (ph : Nat) (w : World) (hp : ph < 4294967296) : Calls Try.prog 80 #[.int .i64 k, .int .u32 ph] w fun e w' => e = .returned (.tuple #[.float .f64 (shapeW k ph), .int .i64 (shapeE k)]) ∧ w = w' := by
  unfold shapeW shapeE
  by_cases k1 : k = 1
  · subst k1
    have A := Lib.hid (fun w => sine_calls ph w hp)
    simp only [if_pos, true_or]
    obtain ⟨q, hq⟩ : ∃ q, sineW ph = q := ⟨_, rfl⟩
    rw [hq] at A ⊢
    clear hq
    go_enter Try.func80, Try.ntmps80
    go_wp2_with (go_at_call 82; refine (A.out _).mono ?_; rintro e w1 ⟨rfl, rfl⟩)
    go_ret2
    exact ⟨rfl, rfl⟩
  by_cases k2 : k = 2
  · subst k2
    simp only [if_pos, if_neg k1, true_or, or_true]
    obtain ⟨q, h1, _⟩ := saw_some ph hp
    have a1 : FloatKind.f64.format.div (FloatKind.f64.nearest (sawZ ph)) 4746794007248502784 = some q := h1
    rw [h1, Option.getD_some]
    have a2 := wrap_saw ph hp
    obtain ⟨nm, hnm⟩ : ∃ nm, floatOfInt FloatKind.f64 (sawZ ph) = nm := ⟨_, rfl⟩
    have hnm2 : FloatKind.f64.nearest (sawZ ph) = nm := hnm
    rw [hnm2] at a1
    generalize sawZ ph = z at *
    clear hnm2 h1
    go_enter Try.func80, Try.ntmps80
    go_wp2_with fail
    go_ret2
    exact ⟨rfl, rfl⟩
  by_cases k3 : k = 3
  · subst k3
    simp only [if_pos, if_neg k1, if_neg k2, true_or, or_true]
    by_cases hh : ph < 2147483648
    · have a1 : (ph : Int) < 2147483648 := by omega
      rw [if_pos hh]
      go_enter Try.func80, Try.ntmps80
      go_wp2_with fail
      go_ret2
      exact ⟨rfl, rfl⟩
    · have a1 : ¬ (ph : Int) < 2147483648 := by omega
      rw [if_neg hh]
      go_enter Try.func80, Try.ntmps80
      go_wp2_with fail
      go_ret2
      exact ⟨rfl, rfl⟩
  by_cases k4 : k = 4
  · subst k4
    simp only [if_pos, if_neg k1, if_neg k2, if_neg k3, or_true]
    obtain ⟨q, h1, _⟩ := tri_some ph hp
    have a1 : FloatKind.f64.format.div (FloatKind.f64.nearest (triZ ph)) 4742290407621132288 = some q := h1
    rw [h1, Option.getD_some]
    have a2 : IntKind.u32.wrap ((ph : Int) + 1073741824) = (((ph + 1073741824) % 4294967296 : Nat) : Int) := by
      rw [← wrap_u32]; rfl
    have a3 := wrap_saw ((ph + 1073741824) % 4294967296) (by omega)
    have a4 := tri_way ph hp
    have b1 := saw_le ((ph + 1073741824) % 4294967296) (by omega)
    obtain ⟨nm, hnm⟩ : ∃ nm, floatOfInt FloatKind.f64 (triZ ph) = nm := ⟨_, rfl⟩
    have hnm2 : FloatKind.f64.nearest (triZ ph) = nm := hnm
    rw [hnm2] at a1
    have b2 := tri_le ph hp
    generalize triZ ph = z at *
    generalize sawZ ((ph + 1073741824) % 4294967296) = y at *
    generalize (ph + 1073741824) % 4294967296 = x at *
    clear hnm2 h1
    have b3 : -2147483648 ≤ y ∧ y ≤ 2147483648 := by omega
    obtain ⟨b3, b4⟩ := b3
    clear b1 b2
    rcases a4 with ⟨a4, a5⟩ | ⟨a4, a5⟩
    · have a6 : ¬ y < -y := by omega
      go_enter Try.func80, Try.ntmps80
      go_wp2_with fail
      go_ret2
      exact ⟨rfl, rfl⟩
    · have a6 : y < -y := by omega
      obtain ⟨u, hu⟩ : ∃ u, -y = u := ⟨_, rfl⟩
      have b5 : -9223372036854775808 ≤ u := by omega
      have b6 : u ≤ 9223372036854775807 := by omega
      rw [hu] at a5 a6
      go_enter Try.func80, Try.ntmps80
      go_wp2_with fail
      go_ret2
      exact ⟨rfl, rfl⟩
  · simp only [k1, k2, k3, k4, or_false, if_false]
    go_enter Try.func80, Try.ntmps80
    go_wp2_with fail
    go_ret2
    exact ⟨rfl, rfl⟩

set_option maxHeartbeats 400000 in
set_option maxRecDepth 100000 in
theorem ref_shape (k : Int) (ph : Nat) (w : World) (hp : ph < 4294967296) : Calls Try.prog 38 #[.int .i64 k, .int .u32 ph] w fun e w' => e = .returned (.tuple #[.float .f64 (shapeW k ph), .int .i64 (shapeE k)]) ∧ w = w' := by
  unfold shapeW shapeE
  by_cases k1 : k = 1
  · subst k1
    have A := Lib.hid (fun w => ref_sine ph w hp)
    simp only [if_pos, true_or]
    obtain ⟨q, hq⟩ : ∃ q, sineW ph = q := ⟨_, rfl⟩
    rw [hq] at A ⊢
    clear hq
    go_enter Try.func38, Try.ntmps38
    go_wp2_with (go_at_call 42; refine (A.out _).mono ?_; rintro e w1 ⟨rfl, rfl⟩)
    go_ret2
    exact ⟨rfl, rfl⟩
  by_cases k2 : k = 2
  · subst k2
    simp only [if_pos, if_neg k1, true_or, or_true]
    obtain ⟨q, h1, _⟩ := saw_some ph hp
    have a1 : FloatKind.f64.format.div (FloatKind.f64.nearest (sawZ ph)) 4746794007248502784 = some q := h1
    rw [h1, Option.getD_some]
    have a2 : sawZ ph = if ph < 2147483648 then (ph : Int) else (ph : Int) - 4294967296 := rfl
    obtain ⟨nm, hnm⟩ : ∃ nm, floatOfInt FloatKind.f64 (sawZ ph) = nm := ⟨_, rfl⟩
    have hnm2 : FloatKind.f64.nearest (sawZ ph) = nm := hnm
    rw [hnm2] at a1
    generalize sawZ ph = z at *
    clear hnm2 h1
    by_cases hh : ph < 2147483648
    · have a3 : ¬ (2147483648 : Int) ≤ ph := by omega
      rw [if_pos hh] at a2
      subst a2
      go_enter Try.func38, Try.ntmps38
      go_wp2_with fail
      go_ret2
      exact ⟨rfl, rfl⟩
    · have a3 : (2147483648 : Int) ≤ ph := by omega
      rw [if_neg hh] at a2
      replace a2 := a2.symm
      go_enter Try.func38, Try.ntmps38
      go_wp2_with fail
      go_ret2
      exact ⟨rfl, rfl⟩
  by_cases k3 : k = 3
  · subst k3
    simp only [if_pos, if_neg k1, if_neg k2, true_or, or_true]
    by_cases hh : ph < 2147483648
    · have a1 : (ph : Int) < 2147483648 := by omega
      rw [if_pos hh]
      go_enter Try.func38, Try.ntmps38
      go_wp2_with fail
      go_ret2
      exact ⟨rfl, rfl⟩
    · have a1 : ¬ (ph : Int) < 2147483648 := by omega
      rw [if_neg hh]
      go_enter Try.func38, Try.ntmps38
      go_wp2_with fail
      go_ret2
      exact ⟨rfl, rfl⟩
  by_cases k4 : k = 4
  · subst k4
    simp only [if_pos, if_neg k1, if_neg k2, if_neg k3, or_true]
    obtain ⟨q, h1, _⟩ := tri_some ph hp
    have a1 : FloatKind.f64.format.div (FloatKind.f64.nearest (triZ ph)) 4742290407621132288 = some q := h1
    rw [h1, Option.getD_some]
    have a2 : triZ ph = if ph ≤ 1073741824 then (ph : Int) else if ph ≤ 3221225472 then 2147483648 - (ph : Int) else (ph : Int) - 4294967296 := rfl
    obtain ⟨nm, hnm⟩ : ∃ nm, floatOfInt FloatKind.f64 (triZ ph) = nm := ⟨_, rfl⟩
    have hnm2 : FloatKind.f64.nearest (triZ ph) = nm := hnm
    rw [hnm2] at a1
    generalize triZ ph = z at *
    clear hnm2 h1
    by_cases hh : ph ≤ 1073741824
    · have a3 : (ph : Int) ≤ 1073741824 := by omega
      rw [if_pos hh] at a2
      subst a2
      go_enter Try.func38, Try.ntmps38
      go_wp2_with fail
      go_ret2
      exact ⟨rfl, rfl⟩
    by_cases hh2 : ph ≤ 3221225472
    · have a3 : ¬ (ph : Int) ≤ 1073741824 := by omega
      have a4 : (ph : Int) ≤ 3221225472 := by omega
      rw [if_neg hh, if_pos hh2] at a2
      replace a2 := a2.symm
      go_enter Try.func38, Try.ntmps38
      go_wp2_with fail
      go_ret2
      exact ⟨rfl, rfl⟩
    · have a3 : ¬ (ph : Int) ≤ 1073741824 := by omega
      have a4 : ¬ (ph : Int) ≤ 3221225472 := by omega
      rw [if_neg hh, if_neg hh2] at a2
      replace a2 := a2.symm
      go_enter Try.func38, Try.ntmps38
      go_wp2_with fail
      go_ret2
      exact ⟨rfl, rfl⟩
  · simp only [k1, k2, k3, k4, or_false, if_false]
    go_enter Try.func38, Try.ntmps38
    go_wp2_with fail
    go_ret2
    exact ⟨rfl, rfl⟩

end Go.Proofs.Ytdliilmnfbgplaa.GVShape

/- Step, the program's and the reference's: the same. -/
namespace Go.Proofs.Ytdliilmnfbgplaa.GVStepF
open Go Ieee Go.RowKit Go.Proofs.Ytdliilmnfbgplaa.Rnd Go.Proofs.Ytdliilmnfbgplaa.Flo Go.Proofs.Ytdliilmnfbgplaa.Flc Go.Proofs.Ytdliilmnfbgplaa.GVTab Go.Proofs.Ytdliilmnfbgplaa.GVSin
set_option linter.unusedVariables false

theorem read_inf {x : Nat} (h : rg x = top) : D.read x = .infinity (sg x) := by
  unfold Format.read
  simp only [sw_is, bin_is, top_is]
  unfold rg at h
  rw [h, if_neg (by decide), if_neg (by decide), if_pos rfl]
  rfl

theorem read_nan {x : Nat} (h : top < rg x) : ∃ s f, D.read x = .nan s f := by
  unfold Format.read
  simp only [sw_is, bin_is, top_is]
  unfold rg at h
  have : (2 : Nat) ^ 52 ≤ top := by decide
  rw [if_neg (by omega), if_neg (by omega), if_neg (by omega)]
  exact ⟨_, _, rfl⟩

theorem cmp_le {a b : Int} (h : a ≤ b) : compare a b = .lt ∨ compare a b = .eq := by
  show compareOfLessAndEq a b = _ ∨ compareOfLessAndEq a b = _
  unfold compareOfLessAndEq
  split
  · exact .inl rfl
  · rw [if_pos (by omega)]; exact .inr rfl

theorem cmp_gt {a b : Int} (h : b < a) : compare a b = .gt := by
  show compareOfLessAndEq a b = _
  unfold compareOfLessAndEq
  rw [if_neg (by omega), if_neg (by omega)]

theorem cmp_lt {a b : Int} (h : a < b) : compare a b = .lt := by
  show compareOfLessAndEq a b = _
  unfold compareOfLessAndEq
  rw [if_pos h]

theorem mul_ge {x y r : Nat} (hx : rg x < top) (hy : rg y < top) (hr : r ≤ top) (h : V r * 2 ^ bias ≤ V (rg x) * V (rg y)) : ∃ z, D.mul x y = some z ∧ r ≤ rg z ∧ rg z ≤ top ∧ sg z = (sg x ^^ sg y) := by
  obtain ⟨m, e, h1, h2⟩ := read_fin hx
  obtain ⟨n, d, h3, h4⟩ := read_fin hy
  obtain ⟨q, h5, h6, h7⟩ := write_ge (sg x ^^ sg y) (m * n) ((e : Int) - 1074 + ((d : Int) - 1074)) (k := bias) (u := e + d) (by rw [bias_is]; omega) hr (by
    rw [Nat.pow_add, show m * n * (2 ^ e * 2 ^ d) = m * 2 ^ e * (n * 2 ^ d) from by ac_rfl, h2, h4]; exact h)
  refine ⟨_, by unfold Format.mul; rw [h1, h3]; rfl, ?_, ?_, ?_⟩
  · rw [h5, rg_word _ h7]; exact h6
  · rw [h5, rg_word _ h7]; exact h7
  · rw [h5, sg_word _ h7]

theorem V_half {r : Nat} (h : 2 ^ 53 ≤ r) : V r = V (r - 2 ^ 52) * 2 := by
  unfold V
  rw [if_neg (by omega), if_neg (by omega)]
  have h1 : (r - 2 ^ 52) % 2 ^ 52 = r % 2 ^ 52 := by omega
  have h2 : r / 2 ^ 52 - 1 = ((r - 2 ^ 52) / 2 ^ 52 - 1) + 1 := by omega
  rw [h1, h2, Nat.pow_succ 2 ((r - 2 ^ 52) / 2 ^ 52 - 1), Nat.mul_assoc]

theorem ar1 (B : Nat) {a b : Nat} (h : a ≤ b) : 2 * B * a ≤ b * 2 * B := by
  have := Nat.mul_le_mul_right (2 * B) h
  rw [Nat.mul_comm (2 * B) a, Nat.mul_assoc b]
  exact this
theorem ar2 (B : Nat) {v R : Nat} (h : v * 2 ≤ R * B) : v * (4294967296 * B) ≤ R * 2147483648 * B * B := by
  have := Nat.mul_le_mul_right (2147483648 * B) h
  rw [show v * (4294967296 * B) = v * 2 * (2147483648 * B) from by rw [show (4294967296 : Nat) = 2 * 2147483648 from rfl, Nat.mul_assoc v, Nat.mul_assoc 2]]
  refine Nat.le_trans this (Nat.le_of_eq ?_)
  generalize (2147483648 : Nat) = c
  ac_rfl
theorem ar3 (B R : Nat) : R * 2147483648 * B ≤ 2 ^ 31 * (R * B) := by
  rw [show (2 : Nat) ^ 31 = 2147483648 from rfl]
  refine Nat.le_of_eq ?_
  generalize (2147483648 : Nat) = c
  ac_rfl
theorem ar4 (B : Nat) {a b : Nat} (h : a ≤ b) : a * 2 * B ≤ 2 * B * b := by
  have := Nat.mul_le_mul_right (2 * B) h
  rw [Nat.mul_comm (2 * B) b, Nat.mul_assoc a]
  exact this

theorem nr_ge {n : Nat} (h : 0 < n) : 2 ^ 53 ≤ nr n := by
  unfold nr
  rw [if_neg (by omega)]
  omega

def sv (x : Nat) : Int := signed (sg x) (V (rg x)) 0
theorem sv_le (x : Nat) : sv x ≤ V (rg x) := by unfold sv signed; cases sg x <;> simp <;> omega
theorem sv_pos {x : Nat} (h : sg x = false ∨ rg x = 0) : sv x = V (rg x) := by
  unfold sv signed
  rcases h with h | h
  · simp [h]
  · rw [h, V_zero]; simp

theorem order_sv {x y : Nat} (hx : rg x < top) (hy : rg y < top) : FloatKind.f64.format.order x y = some (compare (sv x) (sv y)) := order_fin hx hy

theorem V_c32 : V (rg 4751297606875873280) = 4294967296 * 2 ^ bias ∧ rg 4751297606875873280 < top := by decide +kernel
theorem V_2 : V (rg 4611686018427387904) = 2 * 2 ^ bias ∧ rg 4611686018427387904 < top ∧ sg 4611686018427387904 = false := by decide +kernel
theorem read_2 : D.read 4611686018427387904 = .number false (2 ^ 52) (((1 : Nat) : Int) - 52) := by decide +kernel



end Go.Proofs.Ytdliilmnfbgplaa.GVStepF

/- A voice: what is computed, in plain Lean. -/
namespace Go.Proofs.Ytdliilmnfbgplaa.GVMod
open Go Ieee Go.RowKit Go.Proofs.Ytdliilmnfbgplaa.Rnd Go.Proofs.Ytdliilmnfbgplaa.Flo Go.Proofs.Ytdliilmnfbgplaa.Flc Go.Proofs.Ytdliilmnfbgplaa.GVTab Go.Proofs.Ytdliilmnfbgplaa.GVSine Go.Proofs.Ytdliilmnfbgplaa.GVSin Go.Proofs.Ytdliilmnfbgplaa.GVShape Go.Proofs.Ytdliilmnfbgplaa.GVStepF
set_option linter.unusedVariables false

structure Pt where
  shape : Int
  step : Nat
  gain : Nat
  att : Int
  dec : Int
  rel : Int
  sus : Int

/-- Where a voice stands. -/
structure St where
  phase : Nat
  time : Int
  off : Int
  from_ : Int

def Pt.cells (p : Pt) : List Value := [.int .i64 p.shape, .int .u32 p.step, .float .f64 p.gain, .int .i64 p.att, .int .i64 p.dec, .int .i64 p.rel, .int .i64 p.sus]
def St.cells (s : St) : List Value := [.int .u32 s.phase, .int .i64 s.time, .int .i64 s.off, .int .i64 s.from_]

def stageB (n : Int) : Bool := decide (0 ≤ n) && decide (n ≤ 16777216)
def gainB (g : Nat) : Bool := (D.order g 13920626448202203136 == some .gt || D.order g 13920626448202203136 == some .eq) && (D.order g 4697254411347427328 == some .lt || D.order g 4697254411347427328 == some .eq)
def wrongP (p : Pt) : Int :=
  if p.shape < 1 ∨ 4 < p.shape then 1
  else if gainB p.gain = false ∨ stageB p.att = false ∨ stageB p.dec = false ∨ stageB p.rel = false ∨ p.sus < 0 ∨ 1048576 < p.sus then 3 else 0

structure OkP (p : Pt) : Prop where
  shape : 1 ≤ p.shape ∧ p.shape ≤ 4
  gain : gainB p.gain = true
  att : 0 ≤ p.att ∧ p.att ≤ 16777216
  dec : 0 ≤ p.dec ∧ p.dec ≤ 16777216
  rel : 0 ≤ p.rel ∧ p.rel ≤ 16777216
  sus : 0 ≤ p.sus ∧ p.sus ≤ 1048576

theorem okP_of {p : Pt} (h : wrongP p = 0) : OkP p := by
  unfold wrongP at h
  split at h
  · cases h
  · split at h
    · cases h
    · rename_i h1 h2
      simp only [not_or] at h1 h2
      unfold stageB at h2
      simp only [Bool.and_eq_false_iff, decide_eq_false_iff_not, not_or] at h2
      obtain ⟨g, a, d, r, s1, s2⟩ := h2
      exact ⟨by omega, by simpa using g, by omega, by omega, by omega, by omega⟩

def levelZ (p : Pt) (s : St) : Int :=
  if p.rel ≤ s.off then 0
  else if 0 ≤ s.off then Int.tdiv (s.from_ * (p.rel - s.off)) p.rel
  else if s.time < p.att then Int.tdiv (1048576 * s.time) p.att
  else if s.time - p.att < p.dec then 1048576 - Int.tdiv ((1048576 - p.sus) * (s.time - p.att)) p.dec
  else p.sus

structure OkS (s : St) : Prop where
  phase : s.phase < 4294967296
  time : 0 ≤ s.time ∧ s.time ≤ 33554433
  off : -1 ≤ s.off ∧ s.off ≤ 16777217
  from_ : 0 ≤ s.from_ ∧ s.from_ ≤ 1048576

theorem tdiv_le {a b q : Int} (h0 : 0 ≤ a) (hb : 0 < b) (h : a ≤ q * b) : 0 ≤ Int.tdiv a b ∧ Int.tdiv a b ≤ q := by
  rw [Int.tdiv_eq_ediv_of_nonneg h0]
  exact ⟨Int.ediv_nonneg h0 (Int.le_of_lt hb), Int.ediv_le_of_le_mul hb h⟩

theorem level_le {p : Pt} {s : St} (hp : OkP p) (hs : OkS s) : 0 ≤ levelZ p s ∧ levelZ p s ≤ 1048576 := by
  obtain ⟨_, _, ⟨a0, a1⟩, ⟨d0, d1⟩, ⟨r0, r1⟩, s0, s1⟩ := hp
  obtain ⟨_, ⟨t0, t1⟩, ⟨o0, o1⟩, f0, f1⟩ := hs
  unfold levelZ
  split
  · omega
  · split
    · rename_i h1 h2
      refine tdiv_le (Int.mul_nonneg f0 (by omega)) (by omega) ?_
      exact Int.mul_le_mul f1 (by omega) (by omega) (by omega)
    · split
      · rename_i h1 h2 h3
        refine tdiv_le (by omega) (by omega) ?_
        exact Int.mul_le_mul_of_nonneg_left (by omega) (by omega)
      · split
        · rename_i h1 h2 h3 h4
          have := tdiv_le (a := (1048576 - p.sus) * (s.time - p.att)) (b := p.dec) (q := 1048576) (Int.mul_nonneg (by omega) (by omega)) (by omega) (Int.mul_le_mul (by omega) (by omega) (by omega) (by omega))
          omega
        · omega

def c20 : Nat := 4697254411347427328

/-- A sample. -/
def smp (p : Pt) (s : St) : Nat := (D.mul ((D.mul p.gain (shapeW p.shape s.phase)).getD 0) ((D.div (FloatKind.f64.nearest (levelZ p s)) c20).getD 0)).getD 0

def next (p : Pt) (s : St) : St :=
  ⟨(s.phase + p.step) % 4294967296, if s.time ≤ 33554432 then s.time + 1 else s.time, if 0 ≤ s.off ∧ s.off ≤ 16777216 then s.off + 1 else s.off, s.from_⟩

def offS (p : Pt) (s : St) : St := if s.off < 0 then ⟨s.phase, s.time, 0, levelZ p s⟩ else s

theorem next_ok {p : Pt} {s : St} (h : OkS s) : OkS (next p s) := by
  obtain ⟨h1, ⟨t0, t1⟩, ⟨o0, o1⟩, f⟩ := h
  unfold next
  refine ⟨Nat.mod_lt _ (by decide), ?_, ?_, f⟩
  · show 0 ≤ (if s.time ≤ 33554432 then s.time + 1 else s.time) ∧ (if s.time ≤ 33554432 then s.time + 1 else s.time) ≤ 33554433
    split <;> omega
  · show -1 ≤ (if 0 ≤ s.off ∧ s.off ≤ 16777216 then s.off + 1 else s.off) ∧ (if 0 ≤ s.off ∧ s.off ≤ 16777216 then s.off + 1 else s.off) ≤ 16777217
    split <;> omega

theorem off_ok {p : Pt} {s : St} (hp : OkP p) (h : OkS s) : OkS (offS p s) := by
  unfold offS
  split
  · exact ⟨h.phase, h.time, ⟨by show (-1 : Int) ≤ 0; decide, by show (0 : Int) ≤ 16777217; decide⟩, level_le hp h⟩
  · exact h

/-- So many samples, and where the voice stands behind them. -/
def play (p : Pt) : Nat → St → List Nat × St
  | 0, s => ([], s)
  | n + 1, s => (smp p s :: (play p n (next p s)).1, (play p n (next p s)).2)

def after (p : Pt) : Nat → St → St
  | 0, s => s
  | n + 1, s => after p n (next p s)

theorem play_snd (p : Pt) (n : Nat) (s : St) : (play p n s).2 = after p n s := by
  induction n generalizing s with
  | zero => rfl
  | succ n ih => exact ih _

theorem play_len (p : Pt) (n : Nat) (s : St) : (play p n s).1.length = n := by
  induction n generalizing s with
  | zero => rfl
  | succ n ih => simp [play, ih]

theorem after_succ (p : Pt) (n : Nat) (s : St) : after p (n + 1) s = next p (after p n s) := by
  induction n generalizing s with
  | zero => rfl
  | succ n ih => exact ih _

theorem after_ok {p : Pt} {s : St} (h : OkS s) (n : Nat) : OkS (after p n s) := by
  induction n with
  | zero => exact h
  | succ n ih => rw [after_succ]; exact next_ok ih

theorem play_get (p : Pt) (n : Nat) (s : St) (i : Nat) (hi : i < n) : (play p n s).1[i]? = some (smp p (after p i s)) := by
  induction n generalizing s i with
  | zero => omega
  | succ n ih =>
    cases i with
    | zero => rfl
    | succ i => exact ih _ i (by omega)

/-! ### no sample is a NaN -/

theorem sine4 (ph : Nat) (hp : ph < 4294967296) : rg (sineW ph) ≤ ffour := by
  obtain ⟨d, f, p, s, h1, h2, h3, h4, h5⟩ := between (a := atW (ph / 16777216 % 256)) (b := atW ((ph / 16777216 + 1) % 256)) (m := ph % 16777216) (at_le (by omega)) (at_le (by omega)) (by omega)
  rw [sine_of h1 h2 h3 h4]
  exact h5

theorem shape4 (k : Int) (ph : Nat) (hp : ph < 4294967296) : rg (shapeW k ph) ≤ ffour := by
  have h14 : fone ≤ ffour := by decide
  unfold shapeW
  split
  · exact sine4 ph hp
  · split
    · obtain ⟨q, h1, h2⟩ := saw_some ph hp; rw [h1]; exact Nat.le_trans h2 h14
    · split
      · split
        · decide
        · decide
      · split
        · obtain ⟨q, h1, h2⟩ := tri_some ph hp; rw [h1]; exact Nat.le_trans h2 h14
        · decide

theorem V_c20 : V (rg c20) = 1048576 * 2 ^ bias ∧ rg c20 < top ∧ sg c20 = false := by decide +kernel
theorem V_m20 : V (rg 13920626448202203136) = 1048576 * 2 ^ bias ∧ rg 13920626448202203136 < top ∧ sg 13920626448202203136 = true := by decide +kernel

/-- A gain is within 2 ^ 20. -/
theorem gain_le {g : Nat} (h : gainB g = true) : rg g ≤ rg c20 := by
  unfold gainB at h
  simp only [Bool.and_eq_true, Bool.or_eq_true, beq_iff_eq] at h
  obtain ⟨h1, h2⟩ := h
  have c1 := V_c20
  have c2 := V_m20
  have hc20 : (4697254411347427328 : Nat) = c20 := rfl
  rw [hc20] at h2
  rcases Nat.lt_trichotomy (rg g) top with ht | ht | ht
  · have o1 := order_sv ht c2.2.1
    have o2 := order_sv ht c1.2.1
    have e1 : sv 13920626448202203136 = -(V (rg c20) : Int) := by
      unfold sv signed; rw [c2.2.2, c2.1, c1.1]; simp
    have e2 : sv c20 = (V (rg c20) : Int) := sv_pos (.inl c1.2.2)
    change FloatKind.f64.format.order g 13920626448202203136 = _ ∨ FloatKind.f64.format.order g 13920626448202203136 = _ at h1
    change FloatKind.f64.format.order g c20 = _ ∨ FloatKind.f64.format.order g c20 = _ at h2
    rw [o1, e1] at h1
    rw [o2, e2] at h2
    have k1 : -(V (rg c20) : Int) ≤ sv g := by
      rcases Int.lt_or_le (sv g) (-(V (rg c20) : Int)) with h | h
      · rw [cmp_lt h] at h1; simp at h1
      · exact h
    have k2 : sv g ≤ (V (rg c20) : Int) := by
      rcases Int.lt_or_le (V (rg c20) : Int) (sv g) with h | h
      · rw [cmp_gt h] at h2; simp at h2
      · exact h
    refine V_le.1 ?_
    unfold sv signed at k1 k2
    cases sg g <;> simp at k1 k2 <;> omega
  · exfalso
    have hrd := read_inf ht
    obtain ⟨m, e, r1, r2⟩ := read_fin c1.2.1
    obtain ⟨m', e', r3, r4⟩ := read_fin c2.2.1
    change Datum.order (D.read g) (D.read 13920626448202203136) = _ ∨ Datum.order (D.read g) (D.read 13920626448202203136) = _ at h1
    change Datum.order (D.read g) (D.read c20) = _ ∨ Datum.order (D.read g) (D.read c20) = _ at h2
    rw [hrd, r3] at h1
    rw [hrd, r1] at h2
    generalize sg g = b at h1 h2
    cases b <;> simp [Datum.order] at h1 h2
  · exfalso
    obtain ⟨s, f, hrd⟩ := read_nan ht
    change Datum.order (D.read g) (D.read c20) = _ ∨ Datum.order (D.read g) (D.read c20) = _ at h2
    rw [hrd] at h2
    simp [Datum.order] at h2

def f24 : Nat := 4706261610602168320
theorem V_f24 : V f24 = 4194304 * 2 ^ bias ∧ f24 < top := by decide +kernel

theorem arg4 (B a b : Nat) (ha : a ≤ 1048576 * B) (hb : b ≤ 4 * B) : a * b ≤ 4194304 * B * B := by
  have h := Nat.mul_le_mul ha hb
  refine Nat.le_trans h (Nat.le_of_eq ?_)
  rw [show (4194304 : Nat) = 1048576 * 4 from rfl]
  generalize (1048576 : Nat) = c
  generalize (4 : Nat) = d
  ac_rfl

/-- What a sample is made of: its three operations, none a NaN. -/
theorem smp_some {p : Pt} {s : St} (hp : OkP p) (hs : OkS s) : ∃ y q z, D.mul p.gain (shapeW p.shape s.phase) = some y ∧ D.div (FloatKind.f64.nearest (levelZ p s)) c20 = some q ∧ D.mul y q = some z ∧ smp p s = z ∧ rg y ≤ f24 ∧ rg q ≤ fone ∧ rg z ≤ rg y := by
  have hg := gain_le hp.gain
  have hx := shape4 p.shape s.phase hs.phase
  have c1 := V_c20
  have t3 : ffour < top := by decide
  have tf := V_f24
  obtain ⟨y, y1, y2, _⟩ := mul_leE bias_is (x := p.gain) (y := shapeW p.shape s.phase) (r := f24) (by omega) (by omega) tf.2 (by
    rw [tf.1]
    refine arg4 _ _ _ ?_ ?_
    · rw [← c1.1]; exact V_le.2 hg
    · rw [← V_four]; exact V_le.2 hx)
  obtain ⟨l0, l1⟩ := level_le hp hs
  obtain ⟨q, q1, q2⟩ := whole_div (z := levelZ p s) (n := 1048576) (c := c20) (by omega) (by decide) ⟨c1.1, c1.2.1⟩ (by decide)
  have tone : fone < top := by decide
  obtain ⟨z, z1, z2, _⟩ := mul_leE bias_is (x := y) (y := q) (r := rg y) (by omega) (by omega) (by omega) (by
    have := V_le.2 q2
    rw [V_one] at this
    exact Nat.mul_le_mul_left _ this)
  refine ⟨y, q, z, y1, q1, z1, ?_, y2, q2, z2⟩
  unfold smp
  rw [y1, q1]
  simp only [Option.getD_some]
  rw [z1]
  rfl

end Go.Proofs.Ytdliilmnfbgplaa.GVMod

/- A voice: New, level, Off. -/
namespace Go.Proofs.Ytdliilmnfbgplaa.GVWalk
open Go Ieee Go.RowKit Go.Proofs.Ytdliilmnfbgplaa.Rnd Go.Proofs.Ytdliilmnfbgplaa.Flo Go.Proofs.Ytdliilmnfbgplaa.Flc Go.Proofs.Ytdliilmnfbgplaa.GVTab Go.Proofs.Ytdliilmnfbgplaa.GVSine Go.Proofs.Ytdliilmnfbgplaa.GVSin Go.Proofs.Ytdliilmnfbgplaa.GVShape Go.Proofs.Ytdliilmnfbgplaa.GVStepF Go.Proofs.Ytdliilmnfbgplaa.GVMod Go.Proofs.Ytdliilmnfbgplaa.Hp Go.Proofs.Ytdliilmnfbgplaa.Rd
set_option linter.unusedVariables false

set_option maxHeartbeats 400000 in
theorem stage_calls (n : Int) (w : World) : Calls Try.prog 41 #[.int .i64 n] w fun e w' => e = .returned (.bool (stageB n)) ∧ w = w' := by
  unfold stageB
  by_cases h1 : 0 ≤ n <;> by_cases h2 : n ≤ 16777216 <;> simp only [h1, h2, decide_true, decide_false, Bool.and_true, Bool.and_false]
  all_goals go_enter Try.func41, Try.ntmps41; go_wp2_with fail; go_ret; exact ⟨rfl, rfl⟩

/-- A voice in memory: its patch, and where it stands. -/
def VAt (w : World) (g : Nat) (p : Pt) (s : St) : Prop :=
  w.heap[g]? = some (.cells #[.int .i64 p.shape, .int .u32 p.step, .float .f64 p.gain, .int .i64 p.att, .int .i64 p.dec, .int .i64 p.rel, .int .i64 p.sus, .int .u32 s.phase, .int .i64 s.time, .int .i64 s.off, .int .i64 s.from_] 124 (0, 0))

def st0 : St := ⟨0, 0, -1, 0⟩
theorem st0_ok : OkS st0 := ⟨by decide, by decide, by decide, by decide⟩

def NewPost (p : Pt) (w : World) (e : Ending) (w' : World) : Prop := Hid (w.grownBy w' none) ∧
  ((wrongP p ≠ 0 ∧ e = .returned (.tuple #[.pointer none, .int .i64 (wrongP p)])) ∨ (wrongP p = 0 ∧ ∃ g, w.heap.size ≤ g ∧ VAt w' g p st0 ∧ e = .returned (.tuple #[.pointer (some ⟨g, 0, none⟩), .int .i64 0])))

set_option maxHeartbeats 2000000 in
set_option maxRecDepth 100000 in
theorem new_calls (p : Pt) (w : World) : Calls Try.prog 35 #[.agg #[.int .i64 p.shape, .int .u32 p.step, .float .f64 p.gain, .int .i64 p.att, .int .i64 p.dec, .int .i64 p.rel, .int .i64 p.sus]] w fun e w' => NewPost p w e w' := by
  obtain ⟨shape, step, gain, att, dec, rel, sus⟩ := p
  have HGA : Hid (w.grownBy (w.alloc (.cells #[.int .i64 shape, .int .u32 step, .float .f64 gain, .int .i64 att, .int .i64 dec, .int .i64 rel, .int .i64 sus] 51)) none) := grown_alloc (grown_refl _ _) _
  obtain ⟨r, hr⟩ : ∃ r, wrongP ⟨shape, step, gain, att, dec, rel, sus⟩ = r := ⟨_, rfl⟩
  have HR : Hid (r = if shape < 1 ∨ 4 < shape then 1
  else if gainB gain = false ∨ stageB att = false ∨ stageB dec = false ∨ stageB rel = false ∨ sus < 0 ∨ 1048576 < sus then 3 else 0) := by unfold Hid; rw [← hr]; rfl
  unfold NewPost
  rw [hr]
  clear hr
  by_cases q1 : shape < 1
  · have HX : Hid (r = 1) := by unfold Hid; rw [HR.out, if_pos (.inl q1)]
    clear HR
    go_enter Try.func35, Try.ntmps35
    go_wp2_with fail
    go_ret2
    exact ⟨HGA, .inl ⟨by rw [HX.out]; decide, by rw [HX.out]; rfl⟩⟩
  by_cases q2 : 4 < shape
  · have HX : Hid (r = 1) := by unfold Hid; rw [HR.out, if_pos (.inr q2)]
    clear HR
    go_enter Try.func35, Try.ntmps35
    go_wp2_with fail
    go_ret2
    exact ⟨HGA, .inl ⟨by rw [HX.out]; decide, by rw [HX.out]; rfl⟩⟩
  have HR2 : Hid (r = if gainB gain = false ∨ stageB att = false ∨ stageB dec = false ∨ stageB rel = false ∨ sus < 0 ∨ 1048576 < sus then 3 else 0) := by unfold Hid; rw [HR.out, if_neg (by omega)]
  clear HR
  go_enter Try.func35, Try.ntmps35
  go_upto_region 3 with fail
  obtain ⟨g, hg⟩ : ∃ g, w.heap.size = g := ⟨_, rfl⟩
  obtain ⟨wn, hwn⟩ : ∃ wn, w.alloc (.cells #[.int .i64 shape, .int .u32 step, .float .f64 gain, .int .i64 att, .int .i64 dec, .int .i64 rel, .int .i64 sus] 51) = wn := ⟨_, rfl⟩
  have hrow : wn.heap[g]? = some (.cells #[.int .i64 shape, .int .u32 step, .float .f64 gain, .int .i64 att, .int .i64 dec, .int .i64 rel, .int .i64 sus] 51 (0, 0)) := by
    rw [← hwn, ← hg]; exact heap_alloc_new _ _
  rw [hwn] at HGA
  have HROW := Lib.hid hrow
  have hsz : w.heap.size ≤ wn.heap.size := HGA.out.size
  simp only [hg, hwn]
  clear hrow hwn hg
  go_cut [48] from 12 (fun c wx => c = .bool (decide (gainB gain = false ∨ stageB att = false ∨ stageB dec = false ∨ stageB rel = false ∨ sus < 0 ∨ 1048576 < sus)) ∧ wx = wn)
  case first =>
    clear HGA HR2 hsz
    have c2 : wn.cell? ⟨g, 2, none⟩ = some (.float .f64 gain) := cell_of HROW.out 2
    have c3 : wn.cell? ⟨g, 3, none⟩ = some (.int .i64 att) := cell_of HROW.out 3
    have c4 : wn.cell? ⟨g, 4, none⟩ = some (.int .i64 dec) := cell_of HROW.out 4
    have c5 : wn.cell? ⟨g, 5, none⟩ = some (.int .i64 rel) := cell_of HROW.out 5
    have c6 : wn.cell? ⟨g, 6, none⟩ = some (.int .i64 sus) := cell_of HROW.out 6
    clear HROW
    have hgb : gainB gain = ((FloatKind.f64.format.order gain 13920626448202203136 == some .gt || FloatKind.f64.format.order gain 13920626448202203136 == some .eq) && (FloatKind.f64.format.order gain 4697254411347427328 == some .lt || FloatKind.f64.format.order gain 4697254411347427328 == some .eq)) := rfl
    obtain ⟨b1, hb1⟩ : ∃ b, (FloatKind.f64.format.order gain 13920626448202203136 == some .gt || FloatKind.f64.format.order gain 13920626448202203136 == some .eq) = b := ⟨_, rfl⟩
    obtain ⟨b2, hb2⟩ : ∃ b, (FloatKind.f64.format.order gain 4697254411347427328 == some .lt || FloatKind.f64.format.order gain 4697254411347427328 == some .eq) = b := ⟨_, rfl⟩
    rw [hb1, hb2] at hgb
    have HGB := Lib.hid hgb
    clear hgb
    cases b1 with
    | false =>
      go_wp2_with (go_at_call 41; refine (stage_calls _ _).mono ?_; rintro e1 w1 ⟨rfl, rfl⟩)
      go_meet
      exact ⟨congrArg Value.bool (decide_eq_true (.inl (by rw [HGB.out]; rfl))).symm, rfl⟩
    | true =>
    cases b2 with
    | false =>
      go_wp2_with (go_at_call 41; refine (stage_calls _ _).mono ?_; rintro e1 w1 ⟨rfl, rfl⟩)
      go_meet
      exact ⟨congrArg Value.bool (decide_eq_true (.inl (by rw [HGB.out]; rfl))).symm, rfl⟩
    | true =>
    have HGT : Hid (gainB gain = true) := HGB.out
    clear HGB
    by_cases p1 : stageB att = false
    · go_wp2_with (go_at_call 41; refine (stage_calls _ _).mono ?_; rintro e1 w1 ⟨rfl, rfl⟩)
      go_meet
      exact ⟨congrArg Value.bool (decide_eq_true (.inr (.inl p1))).symm, rfl⟩
    have p1' : stageB att = true := by simpa using p1
    clear p1
    by_cases p2 : stageB dec = false
    · go_wp2_with (go_at_call 41; refine (stage_calls _ _).mono ?_; rintro e1 w1 ⟨rfl, rfl⟩)
      go_meet
      exact ⟨congrArg Value.bool (decide_eq_true (.inr (.inr (.inl p2)))).symm, rfl⟩
    have p2' : stageB dec = true := by simpa using p2
    clear p2
    by_cases p3 : stageB rel = false
    · go_wp2_with (go_at_call 41; refine (stage_calls _ _).mono ?_; rintro e1 w1 ⟨rfl, rfl⟩)
      go_meet
      exact ⟨congrArg Value.bool (decide_eq_true (.inr (.inr (.inr (.inl p3))))).symm, rfl⟩
    have p3' : stageB rel = true := by simpa using p3
    clear p3
    by_cases p4 : sus < 0
    · go_wp2_with (go_at_call 41; refine (stage_calls _ _).mono ?_; rintro e1 w1 ⟨rfl, rfl⟩)
      go_meet
      exact ⟨congrArg Value.bool (decide_eq_true (.inr (.inr (.inr (.inr (.inl p4)))))).symm, rfl⟩
    by_cases p5 : 1048576 < sus
    · go_wp2_with (go_at_call 41; refine (stage_calls _ _).mono ?_; rintro e1 w1 ⟨rfl, rfl⟩)
      go_meet
      exact ⟨congrArg Value.bool (decide_eq_true (.inr (.inr (.inr (.inr (.inr p5)))))).symm, rfl⟩
    · go_wp2_with (go_at_call 41; refine (stage_calls _ _).mono ?_; rintro e1 w1 ⟨rfl, rfl⟩)
      go_meet
      exact ⟨congrArg Value.bool (by simp [HGT.out, p1', p2', p3']), rfl⟩
  case rest =>
    obtain ⟨rfl, hwx⟩ := hcut
    rw [hwx]
    clear hwx
    by_cases hb : gainB gain = false ∨ stageB att = false ∨ stageB dec = false ∨ stageB rel = false ∨ sus < 0 ∨ 1048576 < sus
    · have HX : Hid (r = 3) := by unfold Hid; rw [HR2.out, if_pos hb]
      simp only [hb, decide_true]
      clear HR2 hb
      go_wp2_with fail
      go_ret2
      exact ⟨HGA, .inl ⟨by rw [HX.out]; decide, by rw [HX.out]; rfl⟩⟩
    · have HX : Hid (r = 0) := by unfold Hid; rw [HR2.out, if_neg hb]
      simp only [hb, decide_false]
      clear HR2 hb
      have c0 : wn.cell? ⟨g, 0, none⟩ = some (.int .i64 shape) := cell_of HROW.out 0
      have c1 : wn.cell? ⟨g, 1, none⟩ = some (.int .u32 step) := cell_of HROW.out 1
      have c2 : wn.cell? ⟨g, 2, none⟩ = some (.float .f64 gain) := cell_of HROW.out 2
      have c3 : wn.cell? ⟨g, 3, none⟩ = some (.int .i64 att) := cell_of HROW.out 3
      have c4 : wn.cell? ⟨g, 4, none⟩ = some (.int .i64 dec) := cell_of HROW.out 4
      have c5 : wn.cell? ⟨g, 5, none⟩ = some (.int .i64 rel) := cell_of HROW.out 5
      have c6 : wn.cell? ⟨g, 6, none⟩ = some (.int .i64 sus) := cell_of HROW.out 6
      go_wp2_with fail
      go_ret2
      exact ⟨grown_alloc HGA.out _, .inr ⟨HX.out, wn.heap.size, hsz, heap_alloc_new _ _, rfl⟩⟩

end Go.Proofs.Ytdliilmnfbgplaa.GVWalk

/- A voice: level, Off. -/
namespace Go.Proofs.Ytdliilmnfbgplaa.GVLevel
open Go Ieee Go.RowKit Go.Proofs.Ytdliilmnfbgplaa.GVMod Go.Proofs.Ytdliilmnfbgplaa.GVWalk Go.Proofs.Ytdliilmnfbgplaa.Hp Go.Proofs.Ytdliilmnfbgplaa.Rd
set_option linter.unusedVariables false

theorem vat_cells {w : World} {g : Nat} {p : Pt} {s : St} (h : VAt w g p s) :
    w.cell? ⟨g, 0, none⟩ = some (.int .i64 p.shape) ∧ w.cell? ⟨g, 1, none⟩ = some (.int .u32 p.step) ∧ w.cell? ⟨g, 2, none⟩ = some (.float .f64 p.gain) ∧ w.cell? ⟨g, 3, none⟩ = some (.int .i64 p.att) ∧ w.cell? ⟨g, 4, none⟩ = some (.int .i64 p.dec) ∧
    w.cell? ⟨g, 5, none⟩ = some (.int .i64 p.rel) ∧ w.cell? ⟨g, 6, none⟩ = some (.int .i64 p.sus) ∧ w.cell? ⟨g, 7, none⟩ = some (.int .u32 s.phase) ∧ w.cell? ⟨g, 8, none⟩ = some (.int .i64 s.time) ∧ w.cell? ⟨g, 9, none⟩ = some (.int .i64 s.off) ∧ w.cell? ⟨g, 10, none⟩ = some (.int .i64 s.from_) :=
  ⟨cell_of h 0, cell_of h 1, cell_of h 2, cell_of h 3, cell_of h 4, cell_of h 5, cell_of h 6, cell_of h 7, cell_of h 8, cell_of h 9, cell_of h 10⟩

theorem mul_small {a b : Int} (h0 : 0 ≤ a) (h1 : a ≤ 1048576) (k0 : 0 ≤ b) (k1 : b ≤ 67108864) : 0 ≤ a * b ∧ a * b ≤ 70368744177664 :=
  ⟨Int.mul_nonneg h0 k0, Int.mul_le_mul h1 k1 k0 (by decide)⟩

set_option maxHeartbeats 2000000 in
set_option maxRecDepth 100000 in
theorem level_calls (g : Nat) (p : Pt) (s : St) (w : World) (hv : VAt w g p s) (hp : OkP p) (hs : OkS s) :
    Calls Try.prog 81 #[.pointer (some ⟨g, 0, none⟩)] w fun e w' => e = .returned (.int .i64 (levelZ p s)) ∧ ∃ k, w' = w.drewN k := by
  obtain ⟨_, _, _, a3, a4, a5, a6, a7, a8, a9, a10⟩ := vat_cells hv
  have hll := level_le hp hs
  obtain ⟨_, _, ⟨at0, at1⟩, ⟨d0, d1⟩, ⟨r0, r1⟩, s0, s1⟩ := hp
  obtain ⟨_, ⟨t0, t1⟩, ⟨o0, o1⟩, f0, f1⟩ := hs
  obtain ⟨shape, step, gain, att, dec, rel, sus⟩ := p
  obtain ⟨phase, time, off, from_⟩ := s
  simp only at a3 a4 a5 a6 a7 a8 a9 a10 at0 at1 d0 d1 r0 r1 s0 s1 t0 t1 o0 o1 f0 f1
  obtain ⟨L, hL⟩ : ∃ L, levelZ ⟨shape, step, gain, att, dec, rel, sus⟩ ⟨phase, time, off, from_⟩ = L := ⟨_, rfl⟩
  have HL : Hid (L = if rel ≤ off then 0
  else if 0 ≤ off then Int.tdiv (from_ * (rel - off)) rel
  else if time < att then Int.tdiv (1048576 * time) att
  else if time - att < dec then 1048576 - Int.tdiv ((1048576 - sus) * (time - att)) dec
  else sus) := by unfold Hid; rw [← hL]; rfl
  rw [hL] at hll ⊢
  obtain ⟨l0, l1⟩ := hll
  clear hv hL
  by_cases h1 : rel ≤ off
  · have HX : Hid (L = 0) := by unfold Hid; rw [HL.out, if_pos h1]
    clear HL
    go_enter Try.func81, Try.ntmps81
    go_upto_region 2 with fail
    go_region
    go_wp2_with fail
    go_ret
    exact ⟨by rw [HX.out]; rfl, 1, rfl⟩
  by_cases h2 : 0 ≤ off
  · have HX : Hid (L = Int.tdiv (from_ * (rel - off)) rel) := by unfold Hid; rw [HL.out, if_neg h1, if_pos h2]
    obtain ⟨q0, q1⟩ := mul_small (a := from_) (b := rel - off) f0 f1 (by omega) (by omega)
    obtain ⟨m, hm⟩ : ∃ m, from_ * (rel - off) = m := ⟨_, rfl⟩
    obtain ⟨df, hdf⟩ : ∃ m, rel - off = m := ⟨_, rfl⟩
    rw [hm] at HX q0 q1
    rw [hdf] at hm
    have hX := HX.out.symm
    have hr0 : ¬ rel = 0 := by omega
    have hr1 : (rel == 0) = false := by simpa using hr0
    clear HL HX
    go_enter Try.func81, Try.ntmps81
    go_upto_region 2 with fail
    go_region
    go_upto_region 5 with fail
    go_region
    go_wp2_with fail
    go_ret
    exact ⟨rfl, 2, rfl⟩
  by_cases h3 : time < att
  · have HX : Hid (L = Int.tdiv (1048576 * time) att) := by unfold Hid; rw [HL.out, if_neg h1, if_neg h2, if_pos h3]
    obtain ⟨m, hm⟩ : ∃ m, 1048576 * time = m := ⟨_, rfl⟩
    have q0 : 0 ≤ m := by omega
    have q1 : m ≤ 70368744177664 := by omega
    rw [hm] at HX
    have hX := HX.out.symm
    have hr0 : ¬ att = 0 := by omega
    have hr1 : (att == 0) = false := by simpa using hr0
    clear HL HX
    go_enter Try.func81, Try.ntmps81
    go_upto_region 2 with fail
    go_region
    go_wp2_with fail
    go_ret
    exact ⟨rfl, 1, rfl⟩
  by_cases h4 : time - att < dec
  · have HX : Hid (L = 1048576 - Int.tdiv ((1048576 - sus) * (time - att)) dec) := by unfold Hid; rw [HL.out, if_neg h1, if_neg h2, if_neg h3, if_pos h4]
    obtain ⟨q0, q1⟩ := mul_small (a := 1048576 - sus) (b := time - att) (by omega) (by omega) (by omega) (by omega)
    have q3 := tdiv_le (a := (1048576 - sus) * (time - att)) (b := dec) (q := 1048576) q0 (by omega) (Int.mul_le_mul (by omega) (by omega) (by omega) (by omega))
    obtain ⟨df, hdf⟩ : ∃ m, time - att = m := ⟨_, rfl⟩
    obtain ⟨sf, hsf⟩ : ∃ m, 1048576 - sus = m := ⟨_, rfl⟩
    rw [hdf, hsf] at HX q0 q1 q3
    obtain ⟨m, hm⟩ : ∃ m, sf * df = m := ⟨_, rfl⟩
    rw [hm] at HX q0 q1 q3
    obtain ⟨u, hu⟩ : ∃ u, Int.tdiv m dec = u := ⟨_, rfl⟩
    rw [hu] at HX q3
    obtain ⟨q3, q4⟩ := q3
    have hX := HX.out.symm
    rw [hdf] at h4
    have hr0 : ¬ dec = 0 := by omega
    have hr1 : (dec == 0) = false := by simpa using hr0
    clear HL HX
    go_enter Try.func81, Try.ntmps81
    go_upto_region 2 with fail
    go_region
    go_upto_region 8 with fail
    go_region
    go_upto_region 9 with fail
    go_region
    go_wp2_with fail
    go_ret
    exact ⟨rfl, 3, rfl⟩
  · have HX : Hid (L = sus) := by unfold Hid; rw [HL.out, if_neg h1, if_neg h2, if_neg h3, if_neg h4]
    clear HL
    go_enter Try.func81, Try.ntmps81
    go_upto_region 2 with fail
    go_region
    go_upto_region 8 with fail
    go_region
    go_wp2_with fail
    go_ret
    exact ⟨by rw [HX.out]; rfl, 2, rfl⟩

def OffPost (g : Nat) (p : Pt) (s : St) (w : World) (e : Ending) (w' : World) : Prop := e = .returned (.tuple #[]) ∧ Hid (VAt w' g p (offS p s)) ∧ Hid (w.grownBy w' (some g))

theorem vat_off {w : World} {g : Nat} {p : Pt} {s : St} (h : VAt w g p s) (x : Int) : VAt ((w.setCell ⟨g, 10, none⟩ (.int .i64 x)).setCell ⟨g, 9, none⟩ (.int .i64 0)) g p ⟨s.phase, s.time, 0, x⟩ := set_self (set_self h _) _



end Go.Proofs.Ytdliilmnfbgplaa.GVLevel

/- A voice: Render. -/
namespace Go.Proofs.Ytdliilmnfbgplaa.GVRender
open Go Ieee Go.RowKit Go.Proofs.Ytdliilmnfbgplaa.Rnd Go.Proofs.Ytdliilmnfbgplaa.Flo Go.Proofs.Ytdliilmnfbgplaa.Flc Go.Proofs.Ytdliilmnfbgplaa.GVShape Go.Proofs.Ytdliilmnfbgplaa.GVMod Go.Proofs.Ytdliilmnfbgplaa.GVWalk Go.Proofs.Ytdliilmnfbgplaa.GVLevel Go.Proofs.Ytdliilmnfbgplaa.Hp Go.Proofs.Ytdliilmnfbgplaa.Rd
set_option linter.unusedVariables false

theorem info46 : (Try.prog.info? 46).map (fun i => (i.zero, i.size, i.bytes)) = some (some (.float .f64 0), 1, 8) := by kernel_rfl

/-- The samples that are made so far. -/
def Out (w : World) (go n k : Nat) (p : Pt) (s : St) : Prop := ∃ C : Array Value, w.heap[go]? = some (.cells C 46 (0, 0)) ∧ C.size = n ∧ ∀ i, i < n → C[i]? = some (.float .f64 (if i < k then smp p (after p i s) else 0))

theorem Out.keep {w w' : World} {go n k : Nat} {p : Pt} {s : St} (h : Out w go n k p s) (hh : w'.heap[go]? = w.heap[go]?) : Out w' go n k p s := by
  obtain ⟨C, h1, h2⟩ := h
  exact ⟨C, by rw [hh]; exact h1, h2⟩

theorem Out.set {w : World} {go n k : Nat} {p : Pt} {s : St} (h : Out w go n k p s) (hk : k < n) : Out (w.setCell ⟨go, k, none⟩ (.float .f64 (smp p (after p k s)))) go n (k + 1) p s := by
  obtain ⟨C, h1, h2, h3⟩ := h
  refine ⟨_, set_self h1 _, by simp [h2], fun i hi => ?_⟩
  rw [Array.getElem?_setIfInBounds]
  by_cases hik : k = i
  · subst hik; simp [h2, hi]
  · rw [if_neg hik, h3 i hi]
    by_cases h4 : i < k
    · rw [if_pos h4, if_pos (by omega)]
    · rw [if_neg h4, if_neg (by omega)]

theorem Out.at {w : World} {go n k : Nat} {p : Pt} {s : St} (h : Out w go n k p s) {i : Nat} (hi : i < n) : (∃ v, w.cell? ⟨go, i, none⟩ = some v) ∧ w.frozen? ⟨go, i, none⟩ = false := by
  obtain ⟨C, h1, _, h3⟩ := h
  exact ⟨⟨_, by rw [cell_of h1]; exact h3 i hi⟩, free_of h1 i⟩

theorem Out.fls {w : World} {go n : Nat} {p : Pt} {s : St} (h : Out w go n n p s) : Own 46 w (.slice (some ⟨go, 0, none⟩) n n) ((play p n s).1.map (Value.float .f64)) := by
  obtain ⟨C, h1, h2, h3⟩ := h
  refine ⟨go, by simp [play_len], ?_⟩
  rw [h1]
  congr 2
  apply Array.ext'
  apply List.ext_getElem?
  intro i
  rw [Array.getElem?_toList]
  by_cases hi : i < n
  · rw [h3 i hi, if_pos hi]
    simp [play_get p n s i hi]
  · rw [Array.getElem?_eq_none (by omega), List.getElem?_eq_none (by simp [play_len]; omega)]

theorem to_quiet {f : FuncId} {args : Array Value} {w : World} {n : Nat} {v : Value} (h : Calls Try.prog f args (w.drewN n) fun e w' => e = .returned v ∧ w.drewN n = w') : Calls Try.prog f args (w.drewN n) fun e w'' => e = .returned v ∧ ∃ m, w'' = w.drewN m :=
  Calls.quiet_of_same (h.mono fun _ _ ⟨h1, h2⟩ => ⟨h1, h2.symm⟩)

theorem vat7 {w : World} {g : Nat} {p : Pt} {s : St} (h : VAt w g p s) (x : Nat) : VAt (w.setCell ⟨g, 7, none⟩ (.int .u32 x)) g p ⟨x, s.time, s.off, s.from_⟩ := set_self h _
theorem vat8 {w : World} {g : Nat} {p : Pt} {s : St} (h : VAt w g p s) (x : Int) : VAt (w.setCell ⟨g, 8, none⟩ (.int .i64 x)) g p ⟨s.phase, x, s.off, s.from_⟩ := set_self h _
theorem vat9 {w : World} {g : Nat} {p : Pt} {s : St} (h : VAt w g p s) (x : Int) : VAt (w.setCell ⟨g, 9, none⟩ (.int .i64 x)) g p ⟨s.phase, s.time, x, s.from_⟩ := set_self h _

def RenderPost (g : Nat) (p : Pt) (s : St) (n : Nat) (w : World) (e : Ending) (w' : World) : Prop :=
  ∃ v, e = .returned (.tuple #[v, .int .i64 0]) ∧ Hid (Own 46 w' v ((play p n s).1.map (Value.float .f64))) ∧ Hid (VAt w' g p (after p n s)) ∧ Hid (w.grownBy w' (some g)) ∧ Hid (∀ b, v.ownBlock = some b → w.heap.size ≤ b)

set_option maxHeartbeats 4000000 in
set_option maxRecDepth 100000 in
theorem render_calls (g : Nat) (p : Pt) (s : St) (n : Nat) (w : World) (hv : VAt w g p s) (hp : OkP p) (hs : OkS s) (hst : p.step < 4294967296) (hn : n ≤ 65536) :
    Calls Try.prog 79 #[.pointer (some ⟨g, 0, none⟩), .int .i64 n] w fun e w' => RenderPost g p s n w e w' := by
  obtain ⟨i0, hi, hz0, hz1, hz2⟩ := info_parts info46
  have hglt := lt_of hv
  have HV := Lib.hid hv
  have HP := Lib.hid hp
  have HS := Lib.hid hs
  clear hv hp hs
  go_enter Try.func79, Try.ntmps79
  go_upto_region 4 with (at_make; refine wpList_make_full _ rfl _ _ 38 rfl w.heap.size 46 i0 (.float .f64 0) 1 Try.underlying38 hi hz0 hz1 _ _ _ _ n rfl rfl rfl rfl (by rw [hz2]; omega) (by unfold maxLen; omega) (Nat.le_refl _) ?_; intro w1 hown hg1)
  rw [show (madeCells (Value.float FloatKind.f64 0).cells (n * 1)).toList = List.replicate n (Value.float .f64 0) from by rw [Nat.mul_one]; exact madeCells_one _ _] at hown
  have hnew := new_of_made hown
  obtain ⟨go, hgo⟩ : ∃ go, w.heap.size = go := ⟨_, rfl⟩
  have HO1 : Hid (Out w1 go n 0 p s) := ⟨_, by rw [← hgo]; exact hnew, by simp, fun i hi => by rw [List.getElem?_toArray, List.getElem?_replicate, if_pos hi, if_neg (by omega)]⟩
  have HV1 : Hid (VAt w1 g p s) := (hg1.block g hglt (by simp)).trans HV.out
  have HG1 : Hid (w.grownBy w1 (some g)) := grown_none hg1 _
  have HGO := Lib.hid hgo
  have HNB : Hid (∀ b, (Value.slice (some ⟨go, 0, none⟩) n n).ownBlock = some b → w.heap.size ≤ b) := fun b hb => by
    have : go = b := by simpa [Value.ownBlock] using hb
    omega
  rw [hgo] at hglt
  simp only [hgo]
  clear hown hg1 hnew hi hz0 hz1 hz2 HV hgo
  go_wp2_with fail
  go_loopw [20] (fun i wr => ∃ k : Nat, k ≤ n ∧ i = .int .i64 k ∧ Hid (Out wr go n k p s) ∧ Hid (VAt wr g p (after p k s)) ∧ Hid (w.grownBy wr (some g))) (fun i _ => n - (intOf i).toNat)
  case atStart => exact ⟨0, Nat.zero_le _, rfl, HO1, HV1, HG1⟩
  case round =>
    clear HO1 HV1 HG1
    obtain ⟨k, hk, rfl, HO, HV, HG⟩ := hrel
    by_cases hlt : k < n
    · have hsk := after_ok (p := p) HS.out k
      obtain ⟨y, q, z, m1, m2, m3, m4, _⟩ := smp_some HP.out hsk
      have HZ := Lib.hid m4
      have HSK := Lib.hid hsk
      have hnx := after_succ p k s
      have HNX := Lib.hid hnx
      obtain ⟨t, ht⟩ : ∃ t, after p k s = t := ⟨_, rfl⟩
      rw [ht] at HV HSK HNX m1 m2
      have hphase := HSK.out.phase
      have hsc := fun w => shape_calls p.shape t.phase w hphase
      obtain ⟨xw, hxw⟩ : ∃ x, shapeW p.shape t.phase = x := ⟨_, rfl⟩
      obtain ⟨xe, hxe⟩ : ∃ x, shapeE p.shape = x := ⟨_, rfl⟩
      rw [hxw] at m1
      simp only [hxw, hxe] at hsc
      have HSC := Lib.hid hsc
      obtain ⟨L, hL⟩ : ∃ L, levelZ p t = L := ⟨_, rfl⟩
      have hlv := fun w (h : VAt w g p t) => level_calls g p t w h HP.out HSK.out
      simp only [hL] at hlv
      have HLV := Lib.hid hlv
      rw [hL] at m2
      obtain ⟨nm, hnm⟩ : ∃ nm, floatOfInt FloatKind.f64 L = nm := ⟨_, rfl⟩
      have m2' : D.div nm c20 = some q := by rw [← hnm]; exact m2
      have a1 : FloatKind.f64.format.mul p.gain xw = some y := m1
      have a2 : FloatKind.f64.format.div nm 4697254411347427328 = some q := m2'
      have a3 : FloatKind.f64.format.mul y q = some z := m3
      obtain ⟨b0, b1, b2, _, _, _, _, b7, b8, b9, b10⟩ := vat_cells HV.out
      clear m1 m2 m2' m3 m4 hsk hnx ht hphase hsc hxw hxe hL hlv
      go_upto_region 7 with fail
      go_quiet ((go_at_call 80; exact to_quiet (HSC.out _)))
      go_upto_region 8 with fail
      obtain ⟨w2, hw2⟩ : ∃ w2, wr.drewN nq = w2 := ⟨_, rfl⟩
      have HV2 : Hid (VAt w2 g p t) := hw2 ▸ HV.out
      have HO2 : Hid (Out w2 go n k p s) := hw2 ▸ HO.out
      have HG2 : Hid (w.grownBy w2 (some g)) := hw2 ▸ grown_drewN HG.out nq
      have hset2 : ∃ v, w2.cell? ⟨go, k, none⟩ = some v := (HO2.out.at hlt).1
      obtain ⟨ov, e0⟩ := hset2
      have f0 := (HO2.out.at hlt).2
      rw [hw2]
      clear hw2 b0 b1 b2 b7 b8 b9 b10 HV HO HG HSC
      obtain ⟨b0, b1, b2, _, _, _, _, b7, b8, b9, b10⟩ := vat_cells HV2.out
      go_cut [20] from 20 to 94 (fun i wx => i = .int .i64 k ∧ Hid (∃ a, wx = (w2.drew.drewN a).setCell ⟨go, k, none⟩ (.float .f64 z)))
      case first =>
        clear HZ HO2 HG2 HNX HSK HS b0 b1 b7 b8 b9 b10 hst hn hk
        have e1 : ∀ w3, (∃ a, w3 = w2.drew.drewN a) → w3.cell? ⟨go, k, none⟩ = some ov ∧ w3.frozen? ⟨go, k, none⟩ = false ∧ w3.cell? ⟨g, 2, none⟩ = some (.float .f64 p.gain) := by rintro _ ⟨a, rfl⟩; exact ⟨e0, f0, b2⟩
        have E1 := Lib.hid e1
        clear e1
        go_region_with (go_at_call 81; refine (HLV.out w2.drew HV2.out).mono ?_; rintro e w3 ⟨rfl, hx⟩; have e3 := (E1.out _ hx).1; have f3 := (E1.out _ hx).2.1; have c3 := (E1.out _ hx).2.2; have HX := Lib.hid hx; clear hx)
        all_goals
          go_wp2_with fail
          go_meet
          exact ⟨rfl, let ⟨a, ha⟩ := HX.out; ⟨a, by rw [ha]⟩⟩
      case rest =>
        obtain ⟨rfl, HWX⟩ := hcut
        have hgg : g ≠ go := by omega
        have HO4 : Hid (Out wc go n (k + 1) p s) := by
          obtain ⟨a, ha⟩ := HWX
          unfold Hid
          rw [ha]
          have h1 : Out (w2.drew.drewN a) go n k p s := HO2.out
          have h2 := h1.set hlt
          rw [HZ.out] at h2
          exact h2
        have HV4 : Hid (VAt wc g p t) := by
          obtain ⟨a, ha⟩ := HWX
          unfold Hid VAt
          rw [ha, set_other hgg]
          exact HV2.out
        have HG4 : Hid (w.grownBy wc (some g)) := by
          obtain ⟨a, ha⟩ := HWX
          unfold Hid
          rw [ha]
          exact grown_set (grown_drewN (grown_drew HG2.out) a) (.inr (by show w.heap.size ≤ go; rw [HGO.out]; exact Nat.le_refl _)) _
        obtain ⟨ph, tm, of, fr⟩ := t
        obtain ⟨c0, c1, c2, _, _, _, _, c7, c8, c9, c10⟩ := vat_cells HV4.out
        have g7 : wc.frozen? ⟨g, 7, none⟩ = false := free_of HV4.out 7
        obtain ⟨hph, ⟨ht0, ht1⟩, ⟨ho0, ho1⟩, _⟩ := HSK.out
        simp only at hph ht0 ht1 ho0 ho1 c7 c8 c9 c10
        have hwr : IntKind.u32.wrap ((ph : Int) + (p.step : Int)) = (((ph + p.step) % 4294967296 : Nat) : Int) := by
          rw [← GVShape.wrap_u32]; rfl
        obtain ⟨ph2, hph2⟩ : ∃ x, (ph + p.step) % 4294967296 = x := ⟨_, rfl⟩
        rw [hph2] at hwr
        have HPH := Lib.hid hph2
        clear HWX HO2 HV2 HG2 b0 b1 b2 b7 b8 b9 b10 e0 f0 hph2 HLV
        go_upto_region 9 with fail
        go_region
        obtain ⟨w5, hw5⟩ : ∃ w5, (wc.setCell ⟨g, 7, none⟩ (.int .u32 ph2)).drew = w5 := ⟨_, rfl⟩
        have HV5 : Hid (VAt w5 g p ⟨ph2, tm, of, fr⟩) := hw5 ▸ vat7 HV4.out ph2
        have HO5 : Hid (Out w5 go n (k + 1) p s) := hw5 ▸ HO4.out.keep (set_other (by show go ≠ g; omega) _)
        have HG5 : Hid (w.grownBy w5 (some g)) := hw5 ▸ grown_drew (grown_set HG4.out (.inl rfl) _)
        rw [hw5]
        clear hw5 HV4 HO4 HG4 c0 c1 c2 c7 c8 c9 c10 g7 hwr
        obtain ⟨c0, c1, c2, _, _, _, _, c7, c8, c9, c10⟩ := vat_cells HV5.out
        have g8 : w5.frozen? ⟨g, 8, none⟩ = false := free_of HV5.out 8
        have HNXT : Hid (after p (k + 1) s = ⟨ph2, if tm ≤ 33554432 then tm + 1 else tm, if 0 ≤ of ∧ of ≤ 16777216 then of + 1 else of, fr⟩) := by
          unfold Hid
          rw [HNX.out, ← HPH.out]
          rfl
        clear HNX HPH
        by_cases q1 : tm ≤ 33554432
        · simp only [if_pos q1] at HNXT
          go_upto_region 12 with fail
          obtain ⟨w6, hw6⟩ : ∃ w6, w5.setCell ⟨g, 8, none⟩ (.int .i64 (tm + 1)) = w6 := ⟨_, rfl⟩
          have HV6 : Hid (VAt w6 g p ⟨ph2, tm + 1, of, fr⟩) := hw6 ▸ vat8 HV5.out (tm + 1)
          have HO6 : Hid (Out w6 go n (k + 1) p s) := hw6 ▸ HO5.out.keep (set_other (by show go ≠ g; omega) _)
          have HG6 : Hid (w.grownBy w6 (some g)) := hw6 ▸ grown_set HG5.out (.inl rfl) _
          rw [hw6]
          clear hw6 HV5 HO5 HG5 c0 c1 c2 c7 c8 c9 c10 g8
          obtain ⟨c0, c1, c2, _, _, _, _, c7, c8, c9, c10⟩ := vat_cells HV6.out
          have g9 : w6.frozen? ⟨g, 9, none⟩ = false := free_of HV6.out 9
          by_cases q2 : of < 0
          · simp only [if_neg (show ¬ (0 ≤ of ∧ of ≤ 16777216) by omega)] at HNXT
            go_wp2_with fail
            go_roundw
            case rel => exact ⟨k + 1, by omega, by go_num, HO6, by rw [HNXT.out]; exact HV6, HG6⟩
            case measure => simp [intOf]; omega
          by_cases q3 : 16777216 < of
          · simp only [if_neg (show ¬ (0 ≤ of ∧ of ≤ 16777216) by omega)] at HNXT
            go_wp2_with fail
            go_roundw
            case rel => exact ⟨k + 1, by omega, by go_num, HO6, by rw [HNXT.out]; exact HV6, HG6⟩
            case measure => simp [intOf]; omega
          · simp only [if_pos (show 0 ≤ of ∧ of ≤ 16777216 by omega)] at HNXT
            have q4 : 0 ≤ of := by omega
            have HV7 := Lib.hid (vat9 HV6.out (of + 1))
            have HO7 : Hid (Out (w6.setCell ⟨g, 9, none⟩ (.int .i64 (of + 1))) go n (k + 1) p s) := HO6.out.keep (set_other (by show go ≠ g; omega) _)
            have HG7 : Hid (w.grownBy (w6.setCell ⟨g, 9, none⟩ (.int .i64 (of + 1))) (some g)) := grown_set HG6.out (.inl rfl) _
            go_wp2_with fail
            go_roundw
            case rel => exact ⟨k + 1, by omega, by go_num, HO7, by rw [HNXT.out]; exact HV7.out, HG7⟩
            case measure => simp [intOf]; omega
        · simp only [if_neg q1] at HNXT
          go_upto_region 12 with fail
          have HV6 := HV5
          have HO6 := HO5
          have HG6 := HG5
          obtain ⟨w6, hw6⟩ : ∃ w6, w5 = w6 := ⟨_, rfl⟩
          rw [hw6] at HV6 HO6 HG6 ⊢
          clear hw6 HV5 HO5 HG5 c0 c1 c2 c7 c8 c9 c10 g8
          obtain ⟨c0, c1, c2, _, _, _, _, c7, c8, c9, c10⟩ := vat_cells HV6.out
          have g9 : w6.frozen? ⟨g, 9, none⟩ = false := free_of HV6.out 9
          by_cases q2 : of < 0
          · simp only [if_neg (show ¬ (0 ≤ of ∧ of ≤ 16777216) by omega)] at HNXT
            go_wp2_with fail
            go_roundw
            case rel => exact ⟨k + 1, by omega, by go_num, HO6, by rw [HNXT.out]; exact HV6, HG6⟩
            case measure => simp [intOf]; omega
          by_cases q3 : 16777216 < of
          · simp only [if_neg (show ¬ (0 ≤ of ∧ of ≤ 16777216) by omega)] at HNXT
            go_wp2_with fail
            go_roundw
            case rel => exact ⟨k + 1, by omega, by go_num, HO6, by rw [HNXT.out]; exact HV6, HG6⟩
            case measure => simp [intOf]; omega
          · simp only [if_pos (show 0 ≤ of ∧ of ≤ 16777216 by omega)] at HNXT
            have q4 : 0 ≤ of := by omega
            have HV7 := Lib.hid (vat9 HV6.out (of + 1))
            have HO7 : Hid (Out (w6.setCell ⟨g, 9, none⟩ (.int .i64 (of + 1))) go n (k + 1) p s) := HO6.out.keep (set_other (by show go ≠ g; omega) _)
            have HG7 : Hid (w.grownBy (w6.setCell ⟨g, 9, none⟩ (.int .i64 (of + 1))) (some g)) := grown_set HG6.out (.inl rfl) _
            go_wp2_with fail
            go_roundw
            case rel => exact ⟨k + 1, by omega, by go_num, HO7, by rw [HNXT.out]; exact HV7.out, HG7⟩
            case measure => simp [intOf]; omega
    · obtain rfl : k = n := by omega
      have HOWN := Lib.hid HO.out.fls
      clear HO
      go_wp2_with fail
      go_ret2
      exact ⟨_, rfl, HOWN.out, HV, HG, HNB⟩

end Go.Proofs.Ytdliilmnfbgplaa.GVRender

/- The reference's voice: how long it is since it began; Held. -/
namespace Go.Proofs.Ytdliilmnfbgplaa.GVHeld
open Go Ieee Go.RowKit Go.Proofs.Ytdliilmnfbgplaa.GVMod Go.Proofs.Ytdliilmnfbgplaa.GVWalk Go.Proofs.Ytdliilmnfbgplaa.GVLevel Go.Proofs.Ytdliilmnfbgplaa.GVRender Go.Proofs.Ytdliilmnfbgplaa.Hp Go.Proofs.Ytdliilmnfbgplaa.Rd
set_option linter.unusedVariables false

def heldZ (p : Pt) (t : Int) : Int := if t < p.att then Int.tdiv (1048576 * t) p.att else if t < p.att + p.dec then 1048576 - Int.tdiv ((1048576 - p.sus) * (t - p.att)) p.dec else p.sus
def lvl (p : Pt) (t off : Int) : Int := if off < 0 then heldZ p t else if p.rel ≤ t - off then 0 else Int.tdiv (heldZ p off * (p.rel - (t - off))) p.rel

/-- Where the program's voice stands when so many samples are done, and where it was let go. -/
structure At (p : Pt) (s : St) (t : Nat) (off : Int) : Prop where
  phase : s.phase = t * p.step % 4294967296
  time : s.time = min (t : Int) 33554433
  off : (off = -1 ∧ s.off = -1) ∨ (∃ o : Nat, off = o ∧ o ≤ t ∧ s.off = min ((t : Int) - o) 16777217 ∧ s.from_ = heldZ p o)

theorem at_start (p : Pt) : At p st0 0 (-1) := ⟨by simp [st0], by simp [st0]; omega, .inl ⟨rfl, rfl⟩⟩

theorem at_next {p : Pt} {s : St} {t : Nat} {off : Int} (h : At p s t off) : At p (next p s) (t + 1) off := by
  obtain ⟨h1, h2, h3⟩ := h
  refine ⟨?_, ?_, ?_⟩
  · show (s.phase + p.step) % 4294967296 = _
    rw [h1, Nat.add_mul]
    omega
  · show (if s.time ≤ 33554432 then s.time + 1 else s.time) = _
    rw [h2]
    clear h3 h1
    split <;> omega
  · rcases h3 with ⟨a, b⟩ | ⟨o, a, b, c, d⟩
    · refine .inl ⟨a, ?_⟩
      show (if 0 ≤ s.off ∧ s.off ≤ 16777216 then s.off + 1 else s.off) = _
      rw [b, if_neg (by omega)]
    · refine .inr ⟨o, a, by omega, ?_, d⟩
      show (if 0 ≤ s.off ∧ s.off ≤ 16777216 then s.off + 1 else s.off) = _
      rw [c]
      split <;> omega

theorem at_level {p : Pt} {s : St} {t : Nat} {off : Int} (hp : OkP p) (h : At p s t off) : levelZ p s = lvl p t off := by
  obtain ⟨_, _, ⟨a0, a1⟩, ⟨d0, d1⟩, ⟨r0, r1⟩, s0, s1⟩ := hp
  obtain ⟨h1, h2, h3⟩ := h
  unfold levelZ
  rcases h3 with ⟨rfl, b⟩ | ⟨o, rfl, b, c, d⟩
  · rw [show lvl p t (-1) = heldZ p t from if_pos (by omega), b, if_neg (by omega), if_neg (by omega)]
    unfold heldZ
    rw [h2]
    by_cases c1 : (t : Int) < p.att
    · rw [if_pos (by omega), if_pos c1, show min (t : Int) 33554433 = t from by omega]
    · by_cases c2 : (t : Int) < p.att + p.dec
      · rw [if_neg (by omega), if_pos (by omega), if_neg c1, if_pos c2, show min (t : Int) 33554433 = t from by omega]
      · rw [if_neg (by omega), if_neg (by omega), if_neg c1, if_neg c2]
  · rw [c, d, show lvl p t o = if p.rel ≤ (t : Int) - o then 0 else Int.tdiv (heldZ p o * (p.rel - ((t : Int) - o))) p.rel from if_neg (by omega)]
    by_cases c1 : p.rel ≤ (t : Int) - o
    · rw [if_pos (by omega), if_pos c1]
    · rw [if_neg (by omega), if_pos (by omega), if_neg c1, show min ((t : Int) - o) 16777217 = t - o from by omega]

theorem at_off {p : Pt} {s : St} {t : Nat} {off : Int} (hp : OkP p) (h : At p s t off) : At p (offS p s) t (if off < 0 then (t : Int) else off) := by
  have hl := at_level hp h
  obtain ⟨h1, h2, h3⟩ := h
  rcases h3 with ⟨rfl, b⟩ | ⟨o, rfl, b, c, d⟩
  · unfold offS
    rw [if_pos (by omega), if_pos (by omega)]
    refine ⟨h1, h2, .inr ⟨t, rfl, Nat.le_refl _, by show (0 : Int) = _; omega, ?_⟩⟩
    show levelZ p s = _
    rw [hl]
    unfold lvl
    rw [if_pos (by omega)]
  · unfold offS
    rw [if_neg (by omega), if_neg (by omega)]
    exact ⟨h1, h2, .inr ⟨o, rfl, b, c, d⟩⟩

theorem at_after {p : Pt} {s : St} {t : Nat} {off : Int} (h : At p s t off) (k : Nat) : At p (after p k s) (t + k) off := by
  induction k with
  | zero => exact h
  | succ k ih => rw [after_succ]; exact at_next ih

theorem held_le {p : Pt} (hp : OkP p) {t : Int} (h : 0 ≤ t) : 0 ≤ heldZ p t ∧ heldZ p t ≤ 1048576 := by
  obtain ⟨_, _, ⟨a0, a1⟩, ⟨d0, d1⟩, ⟨r0, r1⟩, s0, s1⟩ := hp
  unfold heldZ
  split
  · refine tdiv_le (by omega) (by omega) ?_
    exact Int.mul_le_mul_of_nonneg_left (by omega) (by omega)
  · split
    · have := tdiv_le (a := (1048576 - p.sus) * (t - p.att)) (b := p.dec) (q := 1048576) (Int.mul_nonneg (by omega) (by omega)) (by omega) (Int.mul_le_mul (by omega) (by omega) (by omega) (by omega))
      omega
    · omega

set_option maxHeartbeats 2000000 in
set_option maxRecDepth 100000 in
theorem held_calls (p : Pt) (t : Int) (w : World) (hp : OkP p) (h0 : 0 ≤ t) (h1 : t ≤ 4611686018427387904) :
    Calls Try.prog 43 #[.agg #[.int .i64 p.shape, .int .u32 p.step, .float .f64 p.gain, .int .i64 p.att, .int .i64 p.dec, .int .i64 p.rel, .int .i64 p.sus], .int .i64 t] w fun e w' => e = .returned (.int .i64 (heldZ p t)) ∧ Hid (w.grownBy w' none) := by
  have hll := held_le hp h0
  obtain ⟨_, _, ⟨at0, at1⟩, ⟨d0, d1⟩, ⟨r0, r1⟩, s0, s1⟩ := hp
  obtain ⟨shape, step, gain, att, dec, rel, sus⟩ := p
  simp only at at0 at1 d0 d1 r0 r1 s0 s1
  have HGA : Hid (w.grownBy (w.alloc (.cells #[.int .i64 shape, .int .u32 step, .float .f64 gain, .int .i64 att, .int .i64 dec, .int .i64 rel, .int .i64 sus] 51)) none) := grown_alloc (grown_refl _ _) _
  obtain ⟨L, hL⟩ : ∃ L, heldZ ⟨shape, step, gain, att, dec, rel, sus⟩ t = L := ⟨_, rfl⟩
  have HL : Hid (L = if t < att then Int.tdiv (1048576 * t) att else if t < att + dec then 1048576 - Int.tdiv ((1048576 - sus) * (t - att)) dec else sus) := by unfold Hid; rw [← hL]; rfl
  rw [hL] at hll ⊢
  obtain ⟨l0, l1⟩ := hll
  clear hL
  by_cases h3 : t < att
  · have HX : Hid (L = Int.tdiv (1048576 * t) att) := by unfold Hid; rw [HL.out, if_pos h3]
    obtain ⟨m, hm⟩ : ∃ m, 1048576 * t = m := ⟨_, rfl⟩
    have q0 : 0 ≤ m := by omega
    have q1 : m ≤ 70368744177664 := by omega
    rw [hm] at HX
    have hX := HX.out.symm
    have hr0 : ¬ att = 0 := by omega
    have hr1 : (att == 0) = false := by simpa using hr0
    clear HL HX
    go_enter Try.func43, Try.ntmps43
    go_wp2_with fail
    go_ret
    exact ⟨rfl, HGA⟩
  by_cases h4 : t < att + dec
  · have HX : Hid (L = 1048576 - Int.tdiv ((1048576 - sus) * (t - att)) dec) := by unfold Hid; rw [HL.out, if_neg h3, if_pos h4]
    obtain ⟨q0, q1⟩ := mul_small (a := 1048576 - sus) (b := t - att) (by omega) (by omega) (by omega) (by omega)
    have q3 := tdiv_le (a := (1048576 - sus) * (t - att)) (b := dec) (q := 1048576) q0 (by omega) (Int.mul_le_mul (by omega) (by omega) (by omega) (by omega))
    have hdf0 : 0 ≤ t - att := by omega
    obtain ⟨df, hdf⟩ : ∃ m, t - att = m := ⟨_, rfl⟩
    obtain ⟨sf, hsf⟩ : ∃ m, 1048576 - sus = m := ⟨_, rfl⟩
    rw [hdf, hsf] at HX q0 q1 q3
    obtain ⟨m, hm⟩ : ∃ m, sf * df = m := ⟨_, rfl⟩
    rw [hm] at HX q0 q1 q3
    obtain ⟨u, hu⟩ : ∃ u, Int.tdiv m dec = u := ⟨_, rfl⟩
    rw [hu] at HX q3
    obtain ⟨q3, q4⟩ := q3
    have hX := HX.out.symm
    have hr0 : ¬ dec = 0 := by omega
    have hr1 : (dec == 0) = false := by simpa using hr0
    obtain ⟨ad, had⟩ : ∃ m, att + dec = m := ⟨_, rfl⟩
    have had2 : ad ≤ 33554432 := by omega
    have had3 : 0 ≤ ad := by omega
    rw [had] at h4
    clear HL HX
    go_enter Try.func43, Try.ntmps43
    go_wp2_with fail
    go_ret
    exact ⟨rfl, HGA⟩
  · have HX : Hid (L = sus) := by unfold Hid; rw [HL.out, if_neg h3, if_neg h4]
    obtain ⟨ad, had⟩ : ∃ m, att + dec = m := ⟨_, rfl⟩
    have had2 : ad ≤ 33554432 := by omega
    have had3 : 0 ≤ ad := by omega
    rw [had] at h4
    clear HL
    go_enter Try.func43, Try.ntmps43
    go_wp2_with fail
    go_ret
    exact ⟨by rw [HX.out]; rfl, HGA⟩

end Go.Proofs.Ytdliilmnfbgplaa.GVHeld
