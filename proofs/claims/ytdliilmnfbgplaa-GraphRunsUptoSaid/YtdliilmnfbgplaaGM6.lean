/- Texts of the graph seat, in one file: GSort1, GSort, GNewS, GNewF, GRestsP. -/
import Derived.Test.YtdliilmnfbgplaaGM5
import Derived.Deep.AppendLies
import Derived.Laws.EntriesVeiled
import Derived.Test.YtdliilmnfbgplaaGM4
/- The search for an order: the walk of a visit. -/
namespace Go.Proofs.Ytdliilmnfbgplaa.GSort1
open Go Go.RowKit Go.Proofs.Ytdliilmnfbgplaa.Fl Go.Proofs.Ytdliilmnfbgplaa.Fw Go.Proofs.Ytdliilmnfbgplaa.GRd Go.Proofs.Ytdliilmnfbgplaa.GCells Go.Proofs.Ytdliilmnfbgplaa.GStep Go.Proofs.Ytdliilmnfbgplaa.GMod Go.Proofs.Ytdliilmnfbgplaa.GOrd Go.Proofs.Ytdliilmnfbgplaa.GMem Go.Proofs.Ytdliilmnfbgplaa.GNode4 Go.Proofs.Ytdliilmnfbgplaa.GPMem Go.Proofs.Ytdliilmnfbgplaa.GClone Go.Proofs.Ytdliilmnfbgplaa.Hp Go.Proofs.Ytdliilmnfbgplaa.Rd Go.Proofs.Ytdliilmnfbgplaa.Opn
set_option linter.unusedVariables false
set_option linter.unusedSimpArgs false

/-! ### plain: how many are not seen yet -/
def zeros (l : List Nat) : Nat := (l.filter (· == 0)).length
theorem zeros_le : ∀ (a b : List Nat), b.length = a.length → (∀ j, 0 < a.getD j 0 → 0 < b.getD j 0) → zeros b ≤ zeros a
  | [], [], _, _ => Nat.le_refl _
  | [], _ :: _, h, _ => by simp at h
  | _ :: _, [], h, _ => by simp at h
  | x :: a, y :: b, hl, h => by
    have ih := zeros_le a b (by simpa using hl) (fun j hj => by have := h (j + 1); simpa using this (by simpa using hj))
    have h0 := h 0
    simp only [List.getD_cons_zero] at h0
    unfold zeros at *
    rw [List.filter_cons, List.filter_cons]
    by_cases hy : y = 0
    · have hx : x = 0 := by
        rcases Nat.eq_zero_or_pos x with e | e
        · exact e
        · have := h0 e
          omega
      simp [hx, hy]
      exact ih
    · have hy2 : (y == 0) = false := by simpa using hy
      rw [hy2]
      by_cases hx : x = 0
      · simp [hx]
        exact Nat.le_succ_of_le ih
      · have hx2 : (x == 0) = false := by simpa using hx
        rw [hx2]
        exact ih
theorem zeros_set : ∀ (l : List Nat) (i v : Nat), l[i]? = some 0 → 0 < v → zeros (l.set i v) + 1 = zeros l
  | [], i, v, h, _ => by simp at h
  | x :: l, 0, v, h, hv => by
    simp at h
    subst h
    unfold zeros
    simp [List.filter_cons]
    rw [if_neg (by omega)]
  | x :: l, i + 1, v, h, hv => by
    have ih := zeros_set l i v (by simpa using h) hv
    unfold zeros at *
    rw [List.set_cons_succ, List.filter_cons, List.filter_cons]
    split
    · simp only [List.length_cons]
      omega
    · exact ih
theorem zeros_set_le (l : List Nat) (i v : Nat) (hv : 0 < v) : zeros (l.set i v) ≤ zeros l := by
  refine zeros_le _ _ (by simp) (fun j hj => ?_)
  rw [getD_set]
  split
  · exact hv
  · exact hj
theorem zeros_vis {g : Gd} {s s' : Sr} {a : Nat ⊕ List Nat} {b : Bool} (h : Vis g s a b s') : zeros s'.st ≤ zeros s.st := by
  have hk := vis_keep h
  exact zeros_le _ _ hk.1 (fun j hj => by rw [hk.2.1 j hj]; exact hj)
theorem vis_len {g : Gd} {s s' : Sr} {a : Nat ⊕ List Nat} {b : Bool} (h : Vis g s a b s') : s'.order.length + zeros s'.st ≤ s.order.length + zeros s.st := by
  induction h with
  | seen h => exact Nat.le_refl _
  | @ok s s2 i h1 hil h ih =>
    have e : s.st[i]? = some 0 := by
      rw [List.getElem?_eq_getElem hil]
      rw [List.getD_eq_getElem?_getD, List.getElem?_eq_getElem hil] at h1
      simpa using h1
    have h2 := zeros_set s.st i 1 e (by decide)
    have h3 := zeros_set_le s2.st i 2 (by decide)
    dsimp only at ih ⊢
    split
    · omega
    · rw [List.length_append, List.length_singleton]
      omega
  | @bad s s2 i h1 hil h ih =>
    have h3 := zeros_set_le s.st i 1 (by decide)
    dsimp only at ih ⊢
    omega
  | nil => exact Nat.le_refl _
  | cons h1 h2 ih1 ih2 => omega
  | stop h1 ih => exact ih

/-- Where the search's things lie: the state's cell and row, the graph's and the function's cell. -/
structure Sx where
  sB : Nat
  tb : Nat
  xB : Nat
  vB : Nat
  gb : Nat
  N : Nat
  g0 : Value
  g1 : Value
  g2 : Value
  g3 : Value
  g5 : Value
  g6 : Value

/-- Where the search stands: w1 is the world when it began. -/
structure SoR (x : Sx) (w1 w : World) (s : Sr) : Prop where
  tr : w.heap[x.tb]? = some (.cells (s.st.map fun k : Nat => Value.int .i64 (k : Int)).toArray 3 (0, 0))
  len : s.st.length = x.N
  gc : ∃ ra rc, w.heap[x.gb]? = some (.cells #[x.g0, x.g1, x.g2, x.g3, .slice ra s.order.length rc, x.g5, x.g6] 69 (0, 0)) ∧ w.ownsRow w1.heap.size 3 1 (.slice ra s.order.length rc) s.order.length (flC iC (s.order.map fun k : Nat => (k : Int)))
  fr : Fr (fun b => b = x.tb ∨ b = x.gb) w1 w
  small : s.order.length + zeros s.st ≤ x.N

theorem SoR.set {x : Sx} {w1 w : World} {s : Sr} (h : SoR x w1 w s) (hne : x.tb ≠ x.gb) (hlt : x.tb < w1.heap.size) (i v : Nat) (hsm : s.order.length + zeros (s.st.set i v) ≤ x.N) : SoR x w1 (w.setCell ⟨x.tb, i, none⟩ (.int .i64 (v : Int))) ⟨s.st.set i v, s.order⟩ := by
  have hf : Fr (fun b => b = x.tb) w (w.setCell ⟨x.tb, i, none⟩ (.int .i64 (v : Int))) := fr_set (X := fun b => b = x.tb) (p := ⟨x.tb, i, none⟩) (Fr.refl _ _) (.inl rfl) _
  obtain ⟨ra, rc, h1, h2⟩ := h.gc
  refine ⟨?_, by rw [List.length_set]; exact h.len, ⟨ra, rc, hf.row h1 (fun e => hne e.symm), own_fr h2 hf (fun b hb e => ?_)⟩, fr_trans2 h.fr hf (fun b hb => .inl (.inl hb)), hsm⟩
  · rw [set_self h.tr, List.setIfInBounds_toArray, List.map_set]
  · have := (own_base h2 hb).1
    omega

/-- One more in the order. -/
theorem SoR.push {x : Sx} {w1 w w2 : World} {s : Sr} {ra : Option Addr} {rc : Nat} (h : SoR x w1 w s) (hne : x.tb ≠ x.gb) (hlt : x.tb < w1.heap.size) (hgt : x.gb < w1.heap.size) (h1 : w.heap[x.gb]? = some (.cells #[x.g0, x.g1, x.g2, x.g3, .slice ra s.order.length rc, x.g5, x.g6] 69 (0, 0))) (h2 : w.ownsRow w1.heap.size 3 1 (.slice ra s.order.length rc) s.order.length (flC iC (s.order.map fun k : Nat => (k : Int)))) {k cap : Nat} {g : Nat} (ho : w2.ownsRow w1.heap.size 3 1 (.slice (some ⟨g, 0, none⟩) (s.order.length + 1) cap) (s.order.length + 1) (flC iC (s.order.map fun k : Nat => (k : Int)) ++ [.int .i64 (k : Int)])) (hg : w.grownBy w2 (Value.slice ra s.order.length rc).ownBlock) (hsm : s.order.length + 1 + zeros s.st ≤ x.N) :
    SoR x w1 (w2.setCell ⟨x.gb, 4, none⟩ (.slice (some ⟨g, 0, none⟩) (s.order.length + 1) cap)) ⟨s.st, s.order ++ [k]⟩ := by
  have hown : ∀ b, (Value.slice ra s.order.length rc).ownBlock = some b → w1.heap.size ≤ b := fun b hb => (own_base h2 hb).1
  have hgb : w2.heap[x.gb]? = _ := row_kept hg h1 (fun e => by have := hown _ e.symm; omega)
  have htb := row_kept hg h.tr (fun e => by have := hown _ e.symm; omega)
  have hf : Fr (fun b => b = x.gb) w2 (w2.setCell ⟨x.gb, 4, none⟩ (.slice (some ⟨g, 0, none⟩) (s.order.length + 1) cap)) := fr_set (X := fun b => b = x.gb) (p := ⟨x.gb, 4, none⟩) (Fr.refl _ _) (.inl rfl) _
  have hfg : Fr (fun b => (Value.slice ra s.order.length rc).ownBlock = some b) w w2 := .of hg (fun i e => e)
  refine ⟨hf.row htb hne, h.len, ⟨some ⟨g, 0, none⟩, cap, ?_, ?_⟩, fr_trans2 (fr_trans2 h.fr hfg (fun b hb => .inr (hown b hb))) hf (fun b hb => .inl (.inr hb)), by rw [List.length_append, List.length_singleton]; exact hsm⟩
  · rw [set_self hgb, List.length_append, List.length_singleton]
    rfl
  · rw [List.length_append, List.length_singleton, List.map_append, flC_append]
    refine own_fr ho hf (fun b hb e => ?_)
    have := (own_base ho hb).1
    omega

def VisP (x : Sx) (g : Gd) (w1 : World) (s : Sr) (i : Nat) (e : Ending) (w' : World) : Prop := ∃ (b : Bool) (s' : Sr), e = .returned (.bool b) ∧ Hid (Vis g s (.inl i) b s') ∧ Hid (SoR x w1 w' s')

/-- What the search reads and does not turn. -/
structure SoE (x : Sx) (Z : Nat → Prop) (g : Gd) (vs : List Value) (na va : Option Addr) (nc vc : Nat) (w1 : World) : Prop where
  gn : g.nodes.length = x.N
  n256 : x.N ≤ 256
  g1 : x.g1 = .slice na x.N nc
  g3 : x.g3 = .slice va x.N vc
  sc : w1.heap[x.sB]? = some (.cells #[.slice (some ⟨x.tb, 0, none⟩) x.N x.N] 23 (0, 0))
  xc : w1.heap[x.xB]? = some (.cells #[.pointer (some ⟨x.gb, 0, none⟩)] 56 (0, 0))
  fc : w1.heap[x.vB]? = some (.cells #[.func (.func 36) #[] #[.pointer (some ⟨x.sB, 0, none⟩), .pointer (some ⟨x.xB, 0, none⟩), .pointer (some ⟨x.vB, 0, none⟩)]] 112 (0, 0))
  ne : x.tb ≠ x.gb ∧ x.sB ≠ x.tb ∧ x.sB ≠ x.gb ∧ x.xB ≠ x.tb ∧ x.xB ≠ x.gb ∧ x.vB ≠ x.tb ∧ x.vB ≠ x.gb
  lt : x.tb < w1.heap.size ∧ x.gb < w1.heap.size
  z : ∀ b, Z b → b ≠ x.tb ∧ b ≠ x.gb
  nodes : NdsR w1 Z (.slice na x.N nc) g.nodes
  vals : SlA 1 vC w1 Z (.slice va x.N vc) vs
  vl : vs.length = x.N
  lat : ∀ (i : Nat) (v : Value), vs[i]? = some v → ∃ T u, v = .iface T u ∧ tas 75 T u (isD g i)
  refs : ∀ (i : Nat) (y : Nd), g.nodes[i]? = some y → y.from_.length ≤ 1099511627776 ∧ ∀ k ∈ y.from_, 0 ≤ k ∧ k < (x.N : Int)

theorem st_at {w : World} {tb : Nat} {st : List Nat} (h : w.heap[tb]? = some (.cells (st.map fun k : Nat => Value.int .i64 (k : Int)).toArray 3 (0, 0))) {i : Nat} (hi : i < st.length) : w.cell? ⟨tb, i, none⟩ = some (.int .i64 ((st.getD i 0 : Nat) : Int)) := by
  rw [cell_of h]
  simp only [List.getElem?_toArray, List.getElem?_map]
  rw [List.getD_eq_getElem?_getD, List.getElem?_eq_getElem hi]
  rfl

set_option maxHeartbeats 1000000 in
set_option maxRecDepth 100000 in
theorem visit_seen (x : Sx) (Z : Nat → Prop) (g : Gd) (vs : List Value) (na va : Option Addr) (nc vc : Nat) (w1 : World) (hE : SoE x Z g vs na va nc vc w1) (s : Sr) (i : Nat) (w : World) (hs : SoR x w1 w s) (hi : i < x.N) (hp : 0 < s.st.getD i 0) :
    Calls Try.prog 36 #[.int .i64 (i : Int), .pointer (some ⟨x.sB, 0, none⟩), .pointer (some ⟨x.xB, 0, none⟩), .pointer (some ⟨x.vB, 0, none⟩)] w fun e w' => VisP x g w1 s i e w' := by
  have HV := Lib.hid (Vis.seen (g := g) hp)
  have HS := Lib.hid hs
  have c0 := hs.fr.cell (cell_of hE.sc 0) (fun e => by rcases e with e | e; exact hE.ne.2.1 e; exact hE.ne.2.2.1 e)
  have c1 := st_at hs.tr (by rw [hs.len]; exact hi)
  obtain ⟨V, hV⟩ : ∃ V, s.st.getD i 0 = V := ⟨_, rfl⟩
  rw [hV] at hp c1 HV
  obtain ⟨sB, tb, xB, vB, gb, N, g0, g1, g2, g3, g5, g6⟩ := x
  dsimp only at *
  have hp2 : (0 : Int) < (V : Int) := by omega
  have hil : (i : Int) < (N : Int) := by omega
  clear hE hs hV
  go_enter Try.func36, Try.ntmps36
  go_wp2_with fail
  go_ret
  exact ⟨V == 2, s, congrArg (fun b => Ending.returned (.bool b)) (GFNew.beq_cast V 2), HV.out, HS.out⟩

set_option maxHeartbeats 4000000 in
set_option maxRecDepth 100000 in
theorem visit_calls (x : Sx) (Z : Nat → Prop) (g : Gd) (vs : List Value) (na va : Option Addr) (nc vc : Nat) (w1 : World) (hE : SoE x Z g vs na va nc vc w1) : ∀ (f : Nat) (s : Sr) (i : Nat) (w : World), SoR x w1 w s → i < x.N → zeros s.st ≤ f →
    Calls Try.prog 36 #[.int .i64 (i : Int), .pointer (some ⟨x.sB, 0, none⟩), .pointer (some ⟨x.xB, 0, none⟩), .pointer (some ⟨x.vB, 0, none⟩)] w fun e w' => VisP x g w1 s i e w' := by
  intro f
  induction f with
  | zero =>
    intro s i w hs hi hz
    refine visit_seen x Z g vs na va nc vc w1 hE s i w hs hi ?_
    refine Nat.pos_of_ne_zero fun e => ?_
    have hil : i < s.st.length := by rw [hs.len]; exact hi
    have e2 : s.st[i]? = some 0 := by
      rw [List.getElem?_eq_getElem hil]
      rw [List.getD_eq_getElem?_getD, List.getElem?_eq_getElem hil] at e
      simpa using e
    have := zeros_set s.st i 1 e2 (by decide)
    omega
  | succ f ih =>
    intro s i w hs hi hz
    by_cases hp : 0 < s.st.getD i 0
    · exact visit_seen x Z g vs na va nc vc w1 hE s i w hs hi hp
    have hp0 : s.st.getD i 0 = 0 := by omega
    have hil : i < s.st.length := by rw [hs.len]; exact hi
    have e2 : s.st[i]? = some 0 := by
      rw [List.getElem?_eq_getElem hil]
      rw [List.getD_eq_getElem?_getD, List.getElem?_eq_getElem hil] at hp0
      simpa using hp0
    have hz1 := zeros_set s.st i 1 e2 (by decide)
    have IH := Lib.hid ih
    have HE := Lib.hid hE
    have HIL := Lib.hid hil
    have HP0 := Lib.hid hp0
    obtain ⟨hne, hlt⟩ : x.tb ≠ x.gb ∧ (x.tb < w1.heap.size ∧ x.gb < w1.heap.size) := ⟨hE.ne.1, hE.lt⟩
    have hsm := hs.small
    have HSA : Hid (SoR x w1 (w.setCell ⟨x.tb, i, none⟩ (.int .i64 ((1 : Nat) : Int))) ⟨s.st.set i 1, s.order⟩) := hs.set hne hlt.1 i 1 (by omega)
    have c0 := hs.fr.cell (cell_of hE.sc 0) (fun e => by rcases e with e | e; exact hE.ne.2.1 e; exact hE.ne.2.2.1 e)
    have c1 := st_at hs.tr (by rw [hs.len]; exact hi)
    have cf := free_of hs.tr i
    rw [hp0] at c1
    obtain ⟨v, hv⟩ : ∃ v, vs[i]? = some v := ⟨vs[i]'(by rw [hE.vl]; exact hi), List.getElem?_eq_getElem _⟩
    obtain ⟨T, u, rfl, hta⟩ := hE.lat i v hv
    obtain ⟨bv, ov, rfl, hZv, hvc⟩ := sla_at hE.vals hv
    have hvc0 := hvc 0 _ rfl
    rw [Nat.mul_one, Nat.add_zero] at hvc0
    have HVC := Lib.hid hvc0
    have HZV := Lib.hid hZv
    obtain ⟨y, hy⟩ : ∃ y, g.nodes[i]? = some y := ⟨g.nodes[i]'(by rw [hE.gn]; exact hi), List.getElem?_eq_getElem _⟩
    have HY := Lib.hid hy
    obtain ⟨sB, tb, xB, vB, gb, N, g0, g1, g2, g3, g5, g6⟩ := x
    have hg1 := hE.g1
    have hg3 := hE.g3
    dsimp only at *
    subst hg1 hg3
    have hiN : (i : Int) < (N : Int) := by omega
    have hz0 : (0 : Int) ≤ (i : Int) := by omega
    have HZ1 : Hid (zeros (s.st.set i 1) ≤ f) := by unfold Hid; omega
    have HSM := Lib.hid hsm
    have HZS := Lib.hid hz1
    clear hE ih hs hp hil hp0 e2 hz1 hz hsm hv hvc hvc0 hZv hy
    go_enter Try.func36, Try.ntmps36
    go_upto_region 4 with fail
    obtain ⟨wa, hwa⟩ : ∃ wa, w.setCell ⟨tb, i, none⟩ (.int .i64 1) = wa := ⟨_, rfl⟩
    have HSA2 : Hid (SoR ⟨sB, tb, xB, vB, gb, N, g0, .slice na N nc, g2, .slice (some ⟨bv, ov, none⟩) N vc, g5, g6⟩ w1 wa ⟨s.st.set i 1, s.order⟩) := by unfold Hid; rw [← hwa]; exact HSA.out
    simp only [hwa]
    clear hwa HSA c0 c1 cf
    have hFA := HSA2.out.fr
    have d0 := hFA.cell (cell_of HE.out.xc 0) (fun e => by rcases e with e | e; exact HE.out.ne.2.2.2.1 e; exact HE.out.ne.2.2.2.2.1 e)
    obtain ⟨ra, rc, hgc, hown⟩ := HSA2.out.gc
    have d3 := cell_of hgc 3
    have d4 := hFA.cell HVC.out (fun e => by rcases e with e | e; exact (HE.out.z _ HZV.out).1 e; exact (HE.out.z _ HZV.out).2 e)
    dsimp only at d3
    have HOW := Lib.hid hown
    obtain ⟨dl, hdl⟩ : ∃ dl, isD g i = dl := ⟨_, rfl⟩
    have HDL := Lib.hid hdl
    rw [hdl] at hta
    cases dl with
    | true =>
      have HFIN : Hid (Vis g s (.inl i) true ⟨(s.st.set i 1).set i 2, s.order⟩) := by
        have h1 : Vis g ⟨s.st.set i 1, s.order⟩ (.inr (asks g i)) true ⟨s.st.set i 1, s.order⟩ := by rw [isD_asks hdl]; exact .nil
        have h2 := Vis.ok HP0.out HIL.out h1
        rw [if_pos hdl] at h2
        exact h2
      clear hdl
      have HSB : Hid (SoR ⟨sB, tb, xB, vB, gb, N, g0, .slice na N nc, g2, .slice (some ⟨bv, ov, none⟩) N vc, g5, g6⟩ w1 (wa.setCell ⟨tb, i, none⟩ (.int .i64 ((2 : Nat) : Int))) ⟨(s.st.set i 1).set i 2, s.order⟩) := HSA2.out.set hne hlt.1 i 2 (by
        have h1 := zeros_set_le (s.st.set i 1) i 2 (by decide)
        have h2 := HSM.out
        have h3 := HZS.out
        dsimp only
        unfold Hid at h2 h3
        omega)
      have e0 := hFA.cell (cell_of HE.out.sc 0) (fun e => by rcases e with e | e; exact HE.out.ne.2.1 e; exact HE.out.ne.2.2.1 e)
      have e1 := st_at HSA2.out.tr (i := i) (by rw [List.length_set]; exact HIL.out)
      have ef := free_of HSA2.out.tr i
      clear hFA hgc hown
      go_wp2_with fail
      go_ret
      exact ⟨true, _, rfl, HFIN.out, HSB.out⟩
    | false =>
      obtain ⟨b6, o6, fa, fc, rfl, hZ6, _, hfc, hfs⟩ := nds_at HE.out.nodes HY.out
      have hrf := HE.out.refs i y HY.out
      have d1 := cell_of hgc 1
      have d6 := hFA.cell hfc (fun e => by rcases e with e | e; exact (HE.out.z _ hZ6).1 e; exact (HE.out.z _ hZ6).2 e)
      dsimp only at d1
      have HASK : Hid (asks g i = y.from_.map Int.toNat) := by
        unfold Hid asks
        unfold isD at hdl
        rw [HY.out] at hdl ⊢
        dsimp only at hdl ⊢
        rw [if_neg (by simpa using hdl)]
      obtain ⟨F, hF⟩ : ∃ F, y.from_.length = F := ⟨_, rfl⟩
      rw [hF] at d6 hfs hrf
      have HF := Lib.hid hF
      have HFS := Lib.hid hfs
      have HRF := Lib.hid hrf.2
      have hF2 := hrf.1
      clear hdl hFA hgc hown hfc hfs hrf hF
      go_upto_region 7 with fail
      go_loopw [9, 46] (fun v9 v46 wr => ∃ (q : Nat) (s3 : Sr), q ≤ F ∧ v46 = .int .i64 (q : Int) ∧ Hid (SoR ⟨sB, tb, xB, vB, gb, N, g0, .slice (some ⟨b6, o6, none⟩) N nc, g2, .slice (some ⟨bv, ov, none⟩) N vc, g5, g6⟩ w1 wr s3) ∧ Hid (zeros s3.st ≤ f) ∧ Hid (∀ b s4, Vis g s3 (.inr ((asks g i).drop q)) b s4 → Vis g ⟨s.st.set i 1, s.order⟩ (.inr (asks g i)) b s4)) (fun _ v46 _ => F - (intOf v46).toNat)
      case atStart => exact ⟨0, _, Nat.zero_le _, rfl, HSA2.out, HZ1.out, fun b s4 h => h⟩
      case round =>
        obtain ⟨q, s3, hq, rfl, HS3, HZ3, HV3⟩ := hrel
        obtain ⟨wz, hwz⟩ : ∃ wz : World, wz = wr := ⟨_, rfl⟩
        subst hwz
        clear d0 d1 d3 d4 d6
        by_cases hqF : q = F
        · subst hqF
          have HVV : Hid (Vis g ⟨s.st.set i 1, s.order⟩ (.inr (asks g i)) true s3) := HV3.out true s3 (by
            rw [List.drop_of_length_le (by rw [HASK.out, List.length_map, HF.out]; exact Nat.le_refl _)]
            exact .nil)
          have hfr3 := HS3.out.fr
          have v0 := hfr3.cell (cell_of HE.out.xc 0) (fun e => by rcases e with e | e; exact HE.out.ne.2.2.2.1 e; exact HE.out.ne.2.2.2.2.1 e)
          have v1 := hfr3.cell (cell_of HE.out.sc 0) (fun e => by rcases e with e | e; exact HE.out.ne.2.1 e; exact HE.out.ne.2.2.1 e)
          obtain ⟨ra3, rc3, hgc3, hown3⟩ := HS3.out.gc
          obtain ⟨K, hK⟩ : ∃ K, s3.order.length = K := ⟨_, rfl⟩
          have hgc4 := hgc3
          have hown4 := hown3
          rw [hK] at hgc4 hown4
          have v4 := cell_of hgc4 4
          have vf := free_of hgc4 4
          have HGC3 := Lib.hid hgc3
          have HOW3 := Lib.hid hown3
          have HGC4 := Lib.hid hgc4
          have HOW4 := Lib.hid hown4
          have HKK := Lib.hid hK
          have hn256 := HE.out.n256
          dsimp only at hn256
          have hKm : K + 1 + zeros s3.st ≤ N := by
            have h1 := vis_len HVV.out
            have h2 := HSM.out
            have h3 := HZS.out
            dsimp only at h1
            unfold Hid at h2 h3
            omega
          have hKs : K < N := by
            have h1 := vis_len HVV.out
            have h2 := HSM.out
            have h3 := HZS.out
            dsimp only at h1
            unfold Hid at h2 h3
            omega
          have HOWD : Hid (∀ w', wz.grownBy w' none → w'.ownsRow w1.heap.size 3 1 (.slice ra3 K rc3) K (flC iC (s3.order.map fun k : Nat => (k : Int)))) := fun w' hg => own_kept HOW4.out hg
          have HBS : Hid (w1.heap.size ≤ wz.heap.size) := hfr3.size
          have HNO : Hid ((Value.slice ra3 K rc3).ownBlock ≠ some gb) := fun e => by
            have h1 := (own_base HOW4.out e).1
            have h2 := hlt.2
            omega
          have HXO : Hid ((Value.slice ra3 K rc3).ownBlock ≠ some xB) := fun e => by
            have h1 := (own_base HOW4.out e).1
            have h2 := lt_of HE.out.xc
            dsimp only at h2
            omega
          have va4 : ∀ o, (wz.alloc o).cell? ⟨gb, 4, none⟩ = some (.slice ra3 K rc3) := fun o => cell_of (row_kept (grown_alloc (grown_refl _ none) _) HGC4.out (by simp)) 4
          have vb4 : ∀ o, (wz.alloc o).drew.cell? ⟨gb, 4, none⟩ = some (.slice ra3 K rc3) := fun o => cell_of (row_kept (grown_drew (grown_alloc (grown_refl _ none) _)) HGC4.out (by simp)) 4
          have v0' : wz.cell? ⟨xB, 0, none⟩ = some (.pointer (some ⟨gb, 0, none⟩)) := v0
          have va0 : ∀ o, (wz.alloc o).cell? ⟨xB, 0, none⟩ = some (.pointer (some ⟨gb, 0, none⟩)) := fun o => grown_cell (grown_alloc (grown_refl wz none) o) v0' (by simp)
          have vb0 : ∀ o, (wz.alloc o).drew.cell? ⟨xB, 0, none⟩ = some (.pointer (some ⟨gb, 0, none⟩)) := fun o => grown_cell (grown_drew (grown_alloc (grown_refl wz none) o)) v0' (by simp)
          obtain ⟨j0, hj, hz0', hz1', hz2'⟩ := info_parts info3
          clear hgc3 hown3 hgc4 hown4 hfr3 hK
          go_upto_region 12 with fail
          go_region_law (refine step_append_lies _ rfl (.tmp 59) (.tmp 61) 23 rfl w1.heap.size 3 j0 (.int .i64 0) 1 8 Try.underlying23 hj hz0' hz1' hz2' rfl (by decide) (.slice ra3 K rc3) K (flC iC (s3.order.map fun k : Nat => (k : Int))) rfl (HOWD.out _ (by repeat (first | exact grown_alloc (grown_refl _ _) _ | refine grown_drew ?_))) ⟨wz.heap.size, 0, none⟩ 1 1 [.int .i64 (i : Int)] rfl rfl (World.news_of_block (cs := #[.int .i64 (i : Int)]) (t := 3) (fr := (0, 0)) (by exact heap_alloc_new wz _)) (by simp [Value.oneCell']) (by decide) (by unfold maxLen; omega) (by omega) (by have := HBS.out; unfold Hid at this; simp; omega) _ rfl ?_; intro g9 cap w9 hown9 hgrow hat hlt9; have HG9 : Hid (wz.grownBy w9 (Value.slice ra3 K rc3).ownBlock) := grown_trans (grown_none (by repeat (first | exact grown_alloc (grown_refl _ _) _ | refine grown_drew ?_)) _) hgrow; have HOWN := Lib.hid hown9; have HR9 := row_kept HG9.out HGC4.out (fun e => HNO.out e.symm); have t4 := cell_of HR9 4; have tf := free_of HR9 4; have t0 := HG9.out.cell v0' (fun e => HXO.out e.symm); clear hown9 hgrow hat hlt9 HR9)
          all_goals
            have HS5 : Hid (SoR ⟨sB, tb, xB, vB, gb, N, g0, .slice (some ⟨b6, o6, none⟩) N nc, g2, .slice (some ⟨bv, ov, none⟩) N vc, g5, g6⟩ w1 (w9.setCell ⟨gb, 4, none⟩ (.slice (some ⟨g9, 0, none⟩) (K + 1) cap)) ⟨s3.st, s3.order ++ [i]⟩) := by
              have hk := HKK.out
              unfold Hid at hk
              have h4 := HOWN.out
              have h5 := HG9.out
              rw [← hk] at h4 h5 hKm ⊢
              exact HS3.out.push hne hlt.1 hlt.2 HGC3.out HOW3.out h4 h5 hKm
            have HS6 : Hid (SoR ⟨sB, tb, xB, vB, gb, N, g0, .slice (some ⟨b6, o6, none⟩) N nc, g2, .slice (some ⟨bv, ov, none⟩) N vc, g5, g6⟩ w1 ((w9.setCell ⟨gb, 4, none⟩ (.slice (some ⟨g9, 0, none⟩) (K + 1) cap)).setCell ⟨tb, i, none⟩ (.int .i64 ((2 : Nat) : Int))) ⟨s3.st.set i 2, s3.order ++ [i]⟩) := HS5.out.set hne hlt.1 i 2 (by
              have h1 := zeros_set_le s3.st i 2 (by decide)
              have hk := HKK.out
              unfold Hid at hk
              dsimp only
              rw [List.length_append, List.length_singleton]
              omega)
            have hlen3 := HS3.out.len
            dsimp only at hlen3
            have w0 := HS5.out.fr.cell (cell_of HE.out.sc 0) (fun e => by rcases e with e | e; exact HE.out.ne.2.1 e; exact HE.out.ne.2.2.1 e)
            have w1' := st_at HS5.out.tr (i := i) (by dsimp only; omega)
            have wf := free_of HS5.out.tr i
            obtain ⟨wx, hwx⟩ : ∃ wx, w9.setCell ⟨gb, 4, none⟩ (.slice (some ⟨g9, 0, none⟩) (K + 1) cap) = wx := ⟨_, rfl⟩
            rw [hwx] at HS6 HS5 w0 w1' wf
            simp only [hwx]
            have HFIN : Hid (Vis g s (.inl i) true ⟨s3.st.set i 2, s3.order ++ [i]⟩) := by
              have h2 := Vis.ok HP0.out HIL.out HVV.out
              rw [if_neg (by rw [HDL.out]; exact Bool.false_ne_true)] at h2
              exact h2
            clear hwx v0 v1 v4 vf va4 vb4 v0' va0 vb0 t4 tf t0 hlen3
            go_wp2_with fail
            go_ret
            exact ⟨true, _, rfl, HFIN.out, HS6.out⟩
        have hql : (q : Int) < (F : Int) := by omega
        have hql2 : q < F := by omega
        have hwq : IntKind.i64.wrap ((q : Int) + 1) = (q : Int) + 1 := IntWalk.i64_in _ (by omega)
        obtain ⟨kz, hkz⟩ : ∃ kz, y.from_[q]? = some kz := ⟨y.from_[q]'(by rw [HF.out]; exact hql2), List.getElem?_eq_getElem _⟩
        have hkr := HRF.out kz (List.mem_of_getElem? hkz)
        obtain ⟨kn, rfl⟩ : ∃ kn : Nat, kz = (kn : Int) := Int.eq_ofNat_of_zero_le hkr.1
        have hknN : kn < N := by omega
        obtain ⟨b7, o7, rfl, hZ7, hcl⟩ := sla_at HFS.out hkz
        have hfr3 := HS3.out.fr
        have u1 := hfr3.cell (hcl 0 _ rfl) (fun e => by rcases e with e | e; exact (HE.out.z _ hZ7).1 e; exact (HE.out.z _ hZ7).2 e)
        rw [Nat.mul_one, Nat.add_zero] at u1
        have u2 := hfr3.cell (cell_of HE.out.fc 0) (fun e => by rcases e with e | e; exact HE.out.ne.2.2.2.2.2.1 e; exact HE.out.ne.2.2.2.2.2.2 e)
        have RC := Lib.hid (IH.out s3 kn wz HS3.out hknN HZ3.out)
        have HDR : Hid ((asks g i).drop q = kn :: (asks g i).drop (q + 1)) := by
          unfold Hid
          have h : (asks g i)[q]? = some kn := by rw [HASK.out, List.getElem?_map, hkz]; rfl
          obtain ⟨hh, he⟩ := List.getElem?_eq_some_iff.1 h
          rw [List.drop_eq_getElem_cons hh, he]
        clear hkz hcl hfr3 hkr
        have CONT : Hid (∀ s5, Vis g s3 (.inl kn) true s5 → ∀ b s6, Vis g s5 (.inr ((asks g i).drop (q + 1))) b s6 → Vis g ⟨s.st.set i 1, s.order⟩ (.inr (asks g i)) b s6) := fun s5 h5 b s6 h6 => HV3.out b s6 (by rw [HDR.out]; exact .cons h5 h6)
        have STOP : Hid (∀ s5, Vis g s3 (.inl kn) false s5 → Vis g s (.inl i) false s5) := fun s5 h5 => Vis.bad HP0.out HIL.out (HV3.out false s5 (by rw [HDR.out]; exact .stop h5))
        go_wp2_with (go_at_call 36; refine (RC.out).mono ?_; rintro ez w9 ⟨b, s5, rfl, hv5, hs5⟩; cases b)
        · go_ret
          exact ⟨false, s5, rfl, STOP.out s5 hv5.out, hs5.out⟩
        · have HZ5 : Hid (zeros s5.st ≤ f) := Nat.le_trans (zeros_vis hv5.out) HZ3.out
          have HV5 : Hid (∀ b s6, Vis g s5 (.inr ((asks g i).drop (q + 1))) b s6 → Vis g ⟨s.st.set i 1, s.order⟩ (.inr (asks g i)) b s6) := CONT.out s5 hv5.out
          refine ⟨?_, by simp [intOf]; omega⟩
          first
            | exact ⟨q + 1, s5, by omega, rfl, hs5.out, HZ5.out, HV5.out⟩
            | (repeat apply Exists.intro
               refine ⟨?_, rfl⟩
               exact ⟨q + 1, s5, by omega, rfl, hs5.out, HZ5.out, HV5.out⟩)
end Go.Proofs.Ytdliilmnfbgplaa.GSort1

/- The search for an order: the walk. -/
namespace Go.Proofs.Ytdliilmnfbgplaa.GSort
open Go Go.RowKit Go.Proofs.Ytdliilmnfbgplaa.Fl Go.Proofs.Ytdliilmnfbgplaa.Fw Go.Proofs.Ytdliilmnfbgplaa.GRd Go.Proofs.Ytdliilmnfbgplaa.GCells Go.Proofs.Ytdliilmnfbgplaa.GStep Go.Proofs.Ytdliilmnfbgplaa.GMod Go.Proofs.Ytdliilmnfbgplaa.GOrd Go.Proofs.Ytdliilmnfbgplaa.GMem Go.Proofs.Ytdliilmnfbgplaa.GNode4 Go.Proofs.Ytdliilmnfbgplaa.GPMem Go.Proofs.Ytdliilmnfbgplaa.GClone Go.Proofs.Ytdliilmnfbgplaa.GSort1 Go.Proofs.Ytdliilmnfbgplaa.Hp Go.Proofs.Ytdliilmnfbgplaa.Rd Go.Proofs.Ytdliilmnfbgplaa.Opn
set_option linter.unusedVariables false
set_option linter.unusedSimpArgs false

def s0 (n : Nat) : Sr := ⟨List.replicate n 0, []⟩
/-- What a search leaves. -/
def SortP (w : World) (g : Gd) (gb : Nat) (g0 g1 g2 g3 g5 g6 : Value) (N : Nat) (e : Ending) (w' : World) : Prop :=
  ∃ (b : Bool) (s : Sr), e = .returned (.bool b) ∧ Hid (Vis g (s0 N) (.inr (List.range N)) b s) ∧ Hid (Fr (fun i => i = gb) w w') ∧ s.order.length ≤ N ∧
    Hid (∃ ra rc, w'.heap[gb]? = some (.cells #[g0, g1, g2, g3, .slice ra s.order.length rc, g5, g6] 69 (0, 0)) ∧ w'.ownsRow w.heap.size 3 1 (.slice ra s.order.length rc) s.order.length (flC iC (s.order.map fun k : Nat => (k : Int))))

set_option maxHeartbeats 4000000 in
set_option maxRecDepth 100000 in
theorem sort_calls (Z : Nat → Prop) (g : Gd) (vs : List Value) (gb : Nat) (g0 g2 g5 g6 : Value) (N : Nat) (na va : Option Addr) (nc vc : Nat) (w : World)
    (hgb : w.heap[gb]? = some (.cells #[g0, .slice na N nc, g2, .slice va N vc, .slice none 0 0, g5, g6] 69 (0, 0))) (hgn : g.nodes.length = N) (hn : N ≤ 256) (hZ : ∀ b, Z b → b < w.heap.size ∧ b ≠ gb)
    (hnodes : NdsR w Z (.slice na N nc) g.nodes) (hvals : SlA 1 vC w Z (.slice va N vc) vs) (hvl : vs.length = N)
    (hlat : ∀ (i : Nat) (v : Value), vs[i]? = some v → ∃ T u, v = .iface T u ∧ tas 75 T u (isD g i)) (hrefs : ∀ (i : Nat) (y : Nd), g.nodes[i]? = some y → y.from_.length ≤ 1099511627776 ∧ ∀ k ∈ y.from_, 0 ≤ k ∧ k < (N : Int)) :
    Calls Try.prog 23 #[.pointer (some ⟨gb, 0, none⟩)] w fun e w' => SortP w g gb g0 (.slice na N nc) g2 (.slice va N vc) g5 g6 N e w' := by
  have HGB := Lib.hid hgb
  have HNO := Lib.hid hnodes
  have HVA := Lib.hid hvals
  have HLA := Lib.hid hlat
  have HRF := Lib.hid hrefs
  have HZ := Lib.hid hZ
  have HGN := Lib.hid hgn
  have HVL := Lib.hid hvl
  obtain ⟨j0, hj, hz0', hz1', hz2'⟩ := info_parts info3
  have c3 := cell_of hgb 3
  have ca3 : ∀ o, (w.alloc o).cell? ⟨gb, 3, none⟩ = some (.slice va N vc) := fun o => grown_cell (grown_alloc (grown_refl w none) o) c3 (by simp)
  clear hgb hnodes hvals hlat hrefs hZ hgn hvl
  go_enter Try.func23, Try.ntmps23
  go_upto_region 4 with (at_make; refine wpList_make_full _ rfl _ _ 23 rfl (w.heap.size + 1) 3 j0 (.int .i64 0) 1 Try.underlying23 hj hz0' hz1' _ _ _ _ N rfl rfl rfl rfl (by rw [hz2']; omega) (by unfold maxLen; omega) (by simp) ?_; intro w3 hown hg3; have HOWN := Lib.hid hown; have HG3 := Lib.hid hg3; clear hown hg3)
  obtain ⟨w1, hw1⟩ : ∃ w1, (w3.alloc (.cells #[.slice (some ⟨w.heap.size + 1, 0, none⟩) N N] 23)).alloc (.cells #[.func (.func 36) #[] #[.pointer (some ⟨w3.heap.size, 0, none⟩), .pointer (some ⟨w.heap.size, 0, none⟩), .pointer (some ⟨w3.heap.size + 1, 0, none⟩)]] 112) = w1 := ⟨_, rfl⟩
  simp only [hw1]
  have hga := grown_alloc (grown_refl w none) (.cells #[.pointer (some ⟨gb, 0, none⟩)] 56)
  have hsa : (w.alloc (.cells #[.pointer (some ⟨gb, 0, none⟩)] 56)).heap.size = w.heap.size + 1 := by simp
  have hg31 : w3.grownBy w1 none := by rw [← hw1]; exact grown_alloc (grown_alloc (grown_refl _ _) _) _
  have hrow3 : w3.heap[w.heap.size + 1]? = some (.cells ((s0 N).st.map fun k : Nat => Value.int .i64 (k : Int)).toArray 3 (0, 0)) := by
    have hown := HOWN.out
    rw [show (madeCells (Value.int IntKind.i64 0).cells (N * 1)).toList = List.replicate N (Value.int .i64 0) from by rw [Nat.mul_one]; exact madeCells_one _ _, ← hsa] at hown
    have h := new_of_made (w := w.alloc (.cells #[.pointer (some ⟨gb, 0, none⟩)] 56)) hown
    rw [hsa] at h
    unfold s0
    rw [List.map_replicate]
    exact h
  have hx3 : w3.heap[w.heap.size]? = some (.cells #[.pointer (some ⟨gb, 0, none⟩)] 56 (0, 0)) := row_kept HG3.out (heap_alloc_new _ _) (by simp)
  have hs1 : w1.heap[w3.heap.size]? = some (.cells #[.slice (some ⟨w.heap.size + 1, 0, none⟩) N N] 23 (0, 0)) := by rw [← hw1]; exact alloc2_old _ _ _
  have hv1 : w1.heap[w3.heap.size + 1]? = some (.cells #[.func (.func 36) #[] #[.pointer (some ⟨w3.heap.size, 0, none⟩), .pointer (some ⟨w.heap.size, 0, none⟩), .pointer (some ⟨w3.heap.size + 1, 0, none⟩)]] 112 (0, 0)) := by rw [← hw1]; exact alloc2_new _ _ _
  have hG1 : w.grownBy w1 none := grown_trans hga (grown_trans HG3.out hg31)
  have hgbl := lt_of HGB.out
  have hrl := lt_of hrow3
  have hgb1 := row_kept hG1 HGB.out (by simp)
  have HE : Hid (SoE ⟨w3.heap.size, w.heap.size + 1, w.heap.size, w3.heap.size + 1, gb, N, g0, .slice na N nc, g2, .slice va N vc, g5, g6⟩ Z g vs na va nc vc w1) := by
    refine ⟨HGN.out, hn, rfl, rfl, hs1, row_kept hg31 hx3 (by simp), hv1, ⟨?_, ?_, ?_, ?_, ?_, ?_, ?_⟩, ⟨lt_of (row_kept hg31 hrow3 (by simp)), lt_of hgb1⟩, fun b hb => ⟨fun e => ?_, (HZ.out b hb).2⟩, HNO.out.fr (X := fun _ => False) (.none hG1) (fun _ _ => id), HVA.out.grown hG1, HVL.out, HLA.out, HRF.out⟩ <;> try dsimp only
    all_goals first
      | omega
      | (have := (HZ.out b hb).1
         dsimp only at e
         omega)
  have HS : Hid (SoR ⟨w3.heap.size, w.heap.size + 1, w.heap.size, w3.heap.size + 1, gb, N, g0, .slice na N nc, g2, .slice va N vc, g5, g6⟩ w1 w1 (s0 N)) := ⟨row_kept hg31 hrow3 (by simp), by simp [s0], ⟨none, 0, hgb1, World.ownsRow_nil _ _ _ _⟩, Fr.refl _ _, by simp [s0, zeros]⟩
  have HG1 := Lib.hid hG1
  have HX1 := Lib.hid (cell_of (row_kept hg31 hx3 (by simp)) 0)
  have HGBL := Lib.hid hgbl
  obtain ⟨xB, hxB⟩ : ∃ xB, w.heap.size = xB := ⟨_, rfl⟩
  obtain ⟨sB, hsB⟩ : ∃ sB, w3.heap.size = sB := ⟨_, rfl⟩
  have HXB := Lib.hid hxB
  rw [hxB, hsB] at HE HS
  rw [hxB] at HX1
  simp only [hxB, hsB]
  have c0 := HX1.out
  have d3 := cell_of hgb1 3
  clear hw1 hga hsa hg31 hrow3 hx3 hs1 hv1 hG1 hgbl hrl hgb1 hxB hsB HOWN HG3 c3 ca3
  go_wp2_with fail
  go_loopw [5, 18] (fun v5 v18 wr => ∃ (k : Nat) (s : Sr), k ≤ N ∧ v18 = .int .i64 (k : Int) ∧ Hid (SoR ⟨sB, xB + 1, xB, sB + 1, gb, N, g0, .slice na N nc, g2, .slice va N vc, g5, g6⟩ w1 wr s) ∧ Hid (∀ b s4, Vis g s (.inr ((List.range N).drop k)) b s4 → Vis g (s0 N) (.inr (List.range N)) b s4)) (fun _ v18 _ => N - (intOf v18).toNat)
  case atStart => exact ⟨0, s0 N, Nat.zero_le _, rfl, HS.out, fun b s4 h => h⟩
  case round =>
    obtain ⟨k, s, hk, rfl, HSR, HVS⟩ := hrel
    obtain ⟨wz, hwz⟩ : ∃ wz : World, wz = wr := ⟨_, rfl⟩
    subst hwz
    clear c0 d3
    have END : Hid (∀ b s', Vis g (s0 N) (.inr (List.range N)) b s' → ∀ w', SoR ⟨sB, xB + 1, xB, sB + 1, gb, N, g0, .slice na N nc, g2, .slice va N vc, g5, g6⟩ w1 w' s' → SortP w g gb g0 (.slice na N nc) g2 (.slice va N vc) g5 g6 N (.returned (.bool b)) w') := fun b s' hv w' hs => by
      obtain ⟨ra, rc, h1, h2⟩ := hs.gc
      have hsz := HG1.out.size
      have hxb := HXB.out
      unfold Hid at hxb
      have hsm := hs.small
      dsimp only at hsm
      refine ⟨b, s', rfl, hv, fr_trans2 (.none HG1.out) hs.fr (fun i hi => ?_), by omega, ra, rc, h1, own_mono h2 hsz⟩
      rcases hi with e | e
      · right
        dsimp only at e
        omega
      · exact .inl e
    by_cases hkN : k = N
    · subst hkN
      have HF : Hid (Vis g (s0 k) (.inr (List.range k)) true s) := HVS.out true s (by rw [List.drop_of_length_le (by simp)]; exact .nil)
      go_wp2_with fail
      go_ret
      exact END.out true s HF.out _ HSR.out
    have hkl : (k : Int) < (N : Int) := by omega
    have hkl2 : k < N := by omega
    have hwk : IntKind.i64.wrap ((k : Int) + 1) = (k : Int) + 1 := IntWalk.i64_in _ (by omega)
    have u2 := HSR.out.fr.cell (cell_of HE.out.fc 0) (fun e => by rcases e with e | e; exact HE.out.ne.2.2.2.2.2.1 e; exact HE.out.ne.2.2.2.2.2.2 e)
    have RC := Lib.hid (visit_calls _ Z g vs na va nc vc w1 HE.out (zeros s.st) s k wz HSR.out hkl2 (Nat.le_refl _))
    have HDR : Hid ((List.range N).drop k = k :: (List.range N).drop (k + 1)) := by
      unfold Hid
      rw [List.drop_eq_getElem_cons (by simpa using hkl2), List.getElem_range]
    go_wp2_with (go_at_call 36; refine (RC.out).mono ?_; rintro ez w9 ⟨b, s5, rfl, hv5, hs5⟩; cases b)
    · go_ret
      exact END.out false s5 (HVS.out false s5 (by rw [HDR.out]; exact .stop hv5.out)) _ hs5.out
    · have HV5 : Hid (∀ b s4, Vis g s5 (.inr ((List.range N).drop (k + 1))) b s4 → Vis g (s0 N) (.inr (List.range N)) b s4) := fun b s4 h => HVS.out b s4 (by rw [HDR.out]; exact .cons hv5.out h)
      refine ⟨?_, by simp [intOf]; omega⟩
      first
        | exact ⟨k + 1, s5, by omega, rfl, hs5.out, HV5.out⟩
        | (repeat apply Exists.intro
           refine ⟨?_, rfl⟩
           exact ⟨k + 1, s5, by omega, rfl, hs5.out, HV5.out⟩)
end Go.Proofs.Ytdliilmnfbgplaa.GSort

/- A graph that is being laid out: plain, and in memory. -/
namespace Go.Proofs.Ytdliilmnfbgplaa.GNewS
open Go Go.RowKit Go.Proofs.Ytdliilmnfbgplaa.Fl Go.Proofs.Ytdliilmnfbgplaa.Fw Go.Proofs.Ytdliilmnfbgplaa.GRd Go.Proofs.Ytdliilmnfbgplaa.GCells Go.Proofs.Ytdliilmnfbgplaa.GStep Go.Proofs.Ytdliilmnfbgplaa.GMod Go.Proofs.Ytdliilmnfbgplaa.GOrd Go.Proofs.Ytdliilmnfbgplaa.GMem Go.Proofs.Ytdliilmnfbgplaa.GNode4 Go.Proofs.Ytdliilmnfbgplaa.GPMem Go.Proofs.Ytdliilmnfbgplaa.GPState Go.Proofs.Ytdliilmnfbgplaa.GClone Go.Proofs.Ytdliilmnfbgplaa.GSort1 Go.Proofs.Ytdliilmnfbgplaa.GSort Go.Proofs.Ytdliilmnfbgplaa.Hp Go.Proofs.Ytdliilmnfbgplaa.Rd Go.Proofs.Ytdliilmnfbgplaa.Opn
set_option linter.unusedVariables false
set_option linter.unusedSimpArgs false

/-- What is wrong with the first node with which something is. -/
def firstE (g : Gd) : List Nd → Int
  | [] => 0
  | x :: l => if madeE g x ≠ 0 then madeE g x else firstE g l
/-- What is wrong, but for the order. -/
def preE (g : Gd) : Int :=
  if 256 < g.nodes.length ∨ 256 < g.outs.length ∨ g.ins < 0 ∨ 16 < g.ins then 5
  else if firstE g g.nodes ≠ 0 then firstE g g.nodes
  else if g.outs.any (badRef g.nodes.length) = true then 8
  else 0
/-- So many samples can be made at once. -/
def chunkK (l : List Nd) : Nat := l.foldl (fun c x => if x.kind = 6 then min c x.n.toNat else c) 65536

/-- Where the laying out stands: so many nodes, so many of their values. -/
structure NwS (B : Nat) (wr : World) (gb : Nat) (g : Gd) (ov : Value) (kn kv : Nat) (c : Nat) (na : Option Addr) (nc : Nat) (va : Option Addr) (vc : Nat) (ps : List (Nd × Value)) (vs : List Value) (Q : Nat → Prop) (A : Nat → Nat → Prop) : Prop where
  row : wr.heap[gb]? = some (.cells #[.int .i64 g.ins, .slice na kn nc, ov, .slice va kv vc, .slice none 0 0, .int .i64 (c : Int), .slice none 0 0] 69 (0, 0))
  nown : wr.ownsRow B 53 16 (.slice na kn nc) kn (flC ndC ps)
  vown : wr.ownsRow B 71 1 (.slice va kv vc) kv (flC vC vs)
  pl : ps.length = kn
  vl : vs.length = kv
  fs : ∀ p ∈ ps, SlA 1 iC wr Q p.2 p.1.from_
  outs : SlA 1 iC wr Q ov g.outs
  ns : ∀ (i : Nat) (v : Value) (x : Nd), vs[i]? = some v → g.nodes[i]? = some x → NodeR wr (A i) v (GMod.start x)
  q : ∀ b, Q b → B ≤ b ∧ b < wr.heap.size ∧ b ≠ gb ∧ (Value.slice na kn nc).ownBlock ≠ some b ∧ (Value.slice va kv vc).ownBlock ≠ some b
  a : ∀ i b, A i b → B ≤ b ∧ b < wr.heap.size ∧ b ≠ gb ∧ (Value.slice na kn nc).ownBlock ≠ some b ∧ (Value.slice va kv vc).ownBlock ≠ some b
  qa : ∀ i b, Q b → ¬ A i b
  aa : ∀ i j b, A i b → A j b → i = j
  gbB : B ≤ gb
  ng : (Value.slice na kn nc).ownBlock ≠ some gb
  vg : (Value.slice va kv vc).ownBlock ≠ some gb
  nv : ∀ b, (Value.slice na kn nc).ownBlock = some b → (Value.slice va kv vc).ownBlock ≠ some b

section
variable {B : Nat} {wr w2 : World} {gb : Nat} {g : Gd} {ov : Value} {kn kv c : Nat} {na : Option Addr} {nc : Nat} {va : Option Addr} {vc : Nat} {ps : List (Nd × Value)} {vs : List Value} {Q : Nat → Prop} {A : Nat → Nat → Prop}
theorem NwS.grown (h : NwS B wr gb g ov kn kv c na nc va vc ps vs Q A) (hg : wr.grownBy w2 none) : NwS B w2 gb g ov kn kv c na nc va vc ps vs Q A :=
  ⟨row_kept hg h.row (by simp), own_kept h.nown hg, own_kept h.vown hg, h.pl, h.vl, fun p hp => (h.fs p hp).grown hg, h.outs.grown hg, fun i v x hv hx => (h.ns i v x hv hx).fr (X := fun _ => False) (.none hg) (fun _ _ => id),
    fun b hb => ⟨(h.q b hb).1, Nat.lt_of_lt_of_le (h.q b hb).2.1 hg.size, (h.q b hb).2.2⟩, fun i b hb => ⟨(h.a i b hb).1, Nat.lt_of_lt_of_le (h.a i b hb).2.1 hg.size, (h.a i b hb).2.2⟩, h.qa, h.aa, h.gbB, h.ng, h.vg, h.nv⟩

/-- The nodes' row has grown and is stored. -/
theorem NwS.pushN (h : NwS B wr gb g ov kn kv c na nc va vc ps vs Q A) {x : Nd} {f : Value} {g9 cap : Nat} {Qn : Nat → Prop}
    (ho : w2.ownsRow B 53 16 (.slice (some ⟨g9, 0, none⟩) (kn + 1) cap) (kn + 1) (flC ndC ps ++ ndC (x, f))) (hg : wr.grownBy w2 (Value.slice na kn nc).ownBlock) (hat : (Value.slice na kn nc).ownBlock = some g9 ∨ wr.heap.size ≤ g9)
    (hf : SlA 1 iC wr Qn f x.from_) (hQ : ∀ b, Qn b → B ≤ b ∧ b < wr.heap.size ∧ b ≠ gb ∧ (Value.slice na kn nc).ownBlock ≠ some b ∧ (Value.slice va kv vc).ownBlock ≠ some b ∧ ∀ i, ¬ A i b) :
    NwS B (w2.setCell ⟨gb, 1, none⟩ (.slice (some ⟨g9, 0, none⟩) (kn + 1) cap)) gb g ov (kn + 1) kv c (some ⟨g9, 0, none⟩) cap va vc (ps ++ [(x, f)]) vs (fun b => Q b ∨ Qn b) A := by
  have hrow := row_kept hg h.row (fun e => h.ng e.symm)
  have hgl := lt_of h.row
  have hf1 : Fr (fun b => (Value.slice na kn nc).ownBlock = some b) wr w2 := .of hg (fun i e => e)
  have hf2 : Fr (fun b => b = gb) w2 (w2.setCell ⟨gb, 1, none⟩ (.slice (some ⟨g9, 0, none⟩) (kn + 1) cap)) := fr_set (X := fun b => b = gb) (p := ⟨gb, 1, none⟩) (Fr.refl _ _) (.inl rfl) _
  have hf3 : Fr (fun b => b = gb ∨ (Value.slice na kn nc).ownBlock = some b) wr (w2.setCell ⟨gb, 1, none⟩ (.slice (some ⟨g9, 0, none⟩) (kn + 1) cap)) := (hf1.mono (fun _ => .inr)).trans (hf2.mono (fun _ => .inl))
  have hsz := hf3.size
  have hown : (Value.slice (some ⟨g9, 0, none⟩) (kn + 1) cap).ownBlock = some g9 := rfl
  have hg9 : g9 ≠ gb := by
    rcases hat with e | e
    · exact fun e2 => h.ng (by rw [e, e2])
    · omega
  have hnew : ∀ b, (B ≤ b ∧ b < wr.heap.size ∧ b ≠ gb ∧ (Value.slice na kn nc).ownBlock ≠ some b ∧ (Value.slice va kv vc).ownBlock ≠ some b) → B ≤ b ∧ b < (w2.setCell ⟨gb, 1, none⟩ (.slice (some ⟨g9, 0, none⟩) (kn + 1) cap)).heap.size ∧ b ≠ gb ∧ (Value.slice (some ⟨g9, 0, none⟩) (kn + 1) cap).ownBlock ≠ some b ∧ (Value.slice va kv vc).ownBlock ≠ some b := fun b ⟨h1, h2, h3, h4, h5⟩ => ⟨h1, by omega, h3, fun e => by
      rw [hown] at e
      injection e with e
      subst e
      rcases hat with e | e
      · exact h4 e
      · omega, h5⟩
  have hx : ∀ b, (B ≤ b ∧ b < wr.heap.size ∧ b ≠ gb ∧ (Value.slice na kn nc).ownBlock ≠ some b ∧ (Value.slice va kv vc).ownBlock ≠ some b) → ¬ (b = gb ∨ (Value.slice na kn nc).ownBlock = some b) := fun b ⟨h1, h2, h3, h4, h5⟩ e => e.elim h3 h4
  refine ⟨?_, ?_, own_fr h.vown hf3 (fun b hb e => ?_), by rw [List.length_append, h.pl]; rfl, h.vl, fun p hp => ?_, (h.outs.fr hf3 (fun b hb => hx b (h.q b hb))).mono (fun _ => .inl), fun i v y hv hy => (h.ns i v y hv hy).fr hf3 (fun b hb => hx b (h.a i b hb)), fun b hb => ?_, fun i b hb => hnew b (h.a i b hb), fun i b hb e => ?_, h.aa, h.gbB, by rw [hown]; exact fun e => hg9 (by injection e), h.vg, fun b hb e => ?_⟩
  · rw [set_self hrow]
    rfl
  · rw [flC_append]
    have e : flC ndC [(x, f)] = ndC (x, f) := by simp [flC]
    rw [e]
    exact own_fr ho hf2 (fun b hb e => by
      rw [hown] at hb
      injection hb with hb
      exact hg9 (hb.trans e))
  · rcases e with e | e
    · exact h.vg (by rw [hb, e])
    · exact h.nv b e hb
  · rw [List.mem_append, List.mem_singleton] at hp
    rcases hp with hp | rfl
    · exact ((h.fs p hp).fr hf3 (fun b hb => hx b (h.q b hb))).mono (fun _ => .inl)
    · exact (hf.fr hf3 (fun b hb => hx b ⟨(hQ b hb).1, (hQ b hb).2.1, (hQ b hb).2.2.1, (hQ b hb).2.2.2.1, (hQ b hb).2.2.2.2.1⟩)).mono (fun _ => .inr)
  · rcases hb with hb | hb
    · exact hnew b (h.q b hb)
    · exact hnew b ⟨(hQ b hb).1, (hQ b hb).2.1, (hQ b hb).2.2.1, (hQ b hb).2.2.2.1, (hQ b hb).2.2.2.2.1⟩
  · rcases hb with hb | hb
    · exact h.qa i b hb e
    · exact (hQ b hb).2.2.2.2.2 i e
  · rw [hown] at hb
    injection hb with hb
    subst hb
    rcases hat with e2 | e2
    · exact h.nv _ e2 e
    · have := (own_base h.vown e).2
      omega

/-- The values' row has grown and is stored. -/
theorem NwS.pushV (h : NwS B wr gb g ov kn kv c na nc va vc ps vs Q A) {x : Nd} {v : Value} {g9 cap : Nat} {An : Nat → Prop} (hxk : g.nodes[kv]? = some x)
    (ho : w2.ownsRow B 71 1 (.slice (some ⟨g9, 0, none⟩) (kv + 1) cap) (kv + 1) (flC vC vs ++ [v])) (hg : wr.grownBy w2 (Value.slice va kv vc).ownBlock) (hat : (Value.slice va kv vc).ownBlock = some g9 ∨ wr.heap.size ≤ g9)
    (hn : NodeR wr An v (GMod.start x)) (hA : ∀ b, An b → B ≤ b ∧ b < wr.heap.size ∧ b ≠ gb ∧ (Value.slice na kn nc).ownBlock ≠ some b ∧ (Value.slice va kv vc).ownBlock ≠ some b ∧ ¬ Q b ∧ ∀ i, ¬ A i b) :
    NwS B (w2.setCell ⟨gb, 3, none⟩ (.slice (some ⟨g9, 0, none⟩) (kv + 1) cap)) gb g ov kn (kv + 1) c na nc (some ⟨g9, 0, none⟩) cap ps (vs ++ [v]) Q (fun i b => A i b ∨ (i = kv ∧ An b)) := by
  have hrow := row_kept hg h.row (fun e => h.vg e.symm)
  have hgl := lt_of h.row
  have hf1 : Fr (fun b => (Value.slice va kv vc).ownBlock = some b) wr w2 := .of hg (fun i e => e)
  have hf2 : Fr (fun b => b = gb) w2 (w2.setCell ⟨gb, 3, none⟩ (.slice (some ⟨g9, 0, none⟩) (kv + 1) cap)) := fr_set (X := fun b => b = gb) (p := ⟨gb, 3, none⟩) (Fr.refl _ _) (.inl rfl) _
  have hf3 : Fr (fun b => b = gb ∨ (Value.slice va kv vc).ownBlock = some b) wr (w2.setCell ⟨gb, 3, none⟩ (.slice (some ⟨g9, 0, none⟩) (kv + 1) cap)) := (hf1.mono (fun _ => .inr)).trans (hf2.mono (fun _ => .inl))
  have hsz := hf3.size
  have hown : (Value.slice (some ⟨g9, 0, none⟩) (kv + 1) cap).ownBlock = some g9 := rfl
  have hg9 : g9 ≠ gb := by
    rcases hat with e | e
    · exact fun e2 => h.vg (by rw [e, e2])
    · omega
  have hnew : ∀ b, (B ≤ b ∧ b < wr.heap.size ∧ b ≠ gb ∧ (Value.slice na kn nc).ownBlock ≠ some b ∧ (Value.slice va kv vc).ownBlock ≠ some b) → B ≤ b ∧ b < (w2.setCell ⟨gb, 3, none⟩ (.slice (some ⟨g9, 0, none⟩) (kv + 1) cap)).heap.size ∧ b ≠ gb ∧ (Value.slice na kn nc).ownBlock ≠ some b ∧ (Value.slice (some ⟨g9, 0, none⟩) (kv + 1) cap).ownBlock ≠ some b := fun b ⟨h1, h2, h3, h4, h5⟩ => ⟨h1, by omega, h3, h4, fun e => by
      rw [hown] at e
      injection e with e
      subst e
      rcases hat with e | e
      · exact h5 e
      · omega⟩
  have hx : ∀ b, (B ≤ b ∧ b < wr.heap.size ∧ b ≠ gb ∧ (Value.slice na kn nc).ownBlock ≠ some b ∧ (Value.slice va kv vc).ownBlock ≠ some b) → ¬ (b = gb ∨ (Value.slice va kv vc).ownBlock = some b) := fun b ⟨h1, h2, h3, h4, h5⟩ e => e.elim h3 h5
  have hA5 : ∀ b, An b → (B ≤ b ∧ b < wr.heap.size ∧ b ≠ gb ∧ (Value.slice na kn nc).ownBlock ≠ some b ∧ (Value.slice va kv vc).ownBlock ≠ some b) := fun b hb => ⟨(hA b hb).1, (hA b hb).2.1, (hA b hb).2.2.1, (hA b hb).2.2.2.1, (hA b hb).2.2.2.2.1⟩
  refine ⟨?_, own_fr h.nown hf3 (fun b hb e => ?_), ?_, h.pl, by rw [List.length_append, h.vl]; rfl, fun p hp => (h.fs p hp).fr hf3 (fun b hb => hx b (h.q b hb)), h.outs.fr hf3 (fun b hb => hx b (h.q b hb)), fun i v' y hv hy => ?_, fun b hb => hnew b (h.q b hb), fun i b hb => ?_, fun i b hb e => ?_, fun i j b hi hj => ?_, h.gbB, h.ng, by rw [hown]; exact fun e => hg9 (by injection e), fun b hb e => ?_⟩
  · rw [set_self hrow]
    rfl
  · rcases e with e | e
    · exact h.ng (by rw [hb, e])
    · exact h.nv b hb e
  · rw [flC_append]
    have e : flC vC [v] = [v] := rfl
    rw [e]
    exact own_fr ho hf2 (fun b hb e => by
      rw [hown] at hb
      injection hb with hb
      exact hg9 (hb.trans e))
  · rcases Nat.lt_or_ge i vs.length with hi | hi
    · rw [List.getElem?_append_left hi] at hv
      exact ((h.ns i v' y hv hy).fr hf3 (fun b hb => hx b (h.a i b hb))).mono (fun b _ => .inl)
    · rw [List.getElem?_append_right hi] at hv
      have hi2 : i - vs.length = 0 := by have := (List.getElem?_eq_some_iff.1 hv).1; simpa using this
      rw [hi2] at hv
      simp at hv
      subst hv
      have hik : i = kv := by have := h.vl; omega
      subst hik
      rw [hxk] at hy
      injection hy with hy
      subst hy
      exact (hn.fr hf3 (fun b hb => hx b (hA5 b hb))).mono (fun b _ hb => .inr ⟨rfl, hb⟩)
  · rcases hb with hb | ⟨_, hb⟩
    · exact hnew b (h.a i b hb)
    · exact hnew b (hA5 b hb)
  · rcases e with e | ⟨_, e⟩
    · exact h.qa i b hb e
    · exact (hA b e).2.2.2.2.2.1 hb
  · rcases hi with hi | ⟨rfl, hi⟩
    · rcases hj with hj | ⟨rfl, hj⟩
      · exact h.aa i j b hi hj
      · exact absurd hi ((hA b hj).2.2.2.2.2.2 i)
    · rcases hj with hj | ⟨rfl, hj⟩
      · exact absurd hj ((hA b hi).2.2.2.2.2.2 j)
      · rfl
  · rw [hown] at e
    injection e with e
    subst e
    rcases hat with e2 | e2
    · exact h.nv _ hb e2
    · have := (own_base h.nown hb).2
      omega

/-- The chunk's length is stored. -/
theorem NwS.setC (h : NwS B wr gb g ov kn kv c na nc va vc ps vs Q A) (c2 : Nat) : NwS B (wr.setCell ⟨gb, 5, none⟩ (.int .i64 (c2 : Int))) gb g ov kn kv c2 na nc va vc ps vs Q A := by
  have hf : Fr (fun b => b = gb) wr (wr.setCell ⟨gb, 5, none⟩ (.int .i64 (c2 : Int))) := fr_set (X := fun b => b = gb) (p := ⟨gb, 5, none⟩) (Fr.refl _ _) (.inl rfl) _
  refine ⟨by rw [set_self h.row]; rfl, own_fr h.nown hf (fun b hb e => h.ng (by rw [hb, e])), own_fr h.vown hf (fun b hb e => h.vg (by rw [hb, e])), h.pl, h.vl, fun p hp => (h.fs p hp).fr hf (fun b hb => (h.q b hb).2.2.1), h.outs.fr hf (fun b hb => (h.q b hb).2.2.1), fun i v x hv hx => (h.ns i v x hv hx).fr hf (fun b hb => (h.a i b hb).2.2.1), fun b hb => ?_, fun i b hb => ?_, h.qa, h.aa, h.gbB, h.ng, h.vg, h.nv⟩
  · rw [size_set]
    exact h.q b hb
  · rw [size_set]
    exact h.a i b hb
end
end Go.Proofs.Ytdliilmnfbgplaa.GNewS

/- A graph that is laid out: what it is then, plain and in memory. -/
namespace Go.Proofs.Ytdliilmnfbgplaa.GNewF
open Go Go.RowKit Go.Proofs.Ytdliilmnfbgplaa.GPiece Go.Proofs.Ytdliilmnfbgplaa.Fl Go.Proofs.Ytdliilmnfbgplaa.Fw Go.Proofs.Ytdliilmnfbgplaa.GRd Go.Proofs.Ytdliilmnfbgplaa.GCells Go.Proofs.Ytdliilmnfbgplaa.GStep Go.Proofs.Ytdliilmnfbgplaa.GMod Go.Proofs.Ytdliilmnfbgplaa.GOrd Go.Proofs.Ytdliilmnfbgplaa.GMem Go.Proofs.Ytdliilmnfbgplaa.GNode Go.Proofs.Ytdliilmnfbgplaa.GNode2 Go.Proofs.Ytdliilmnfbgplaa.GNode4 Go.Proofs.Ytdliilmnfbgplaa.GPMem Go.Proofs.Ytdliilmnfbgplaa.GPState Go.Proofs.Ytdliilmnfbgplaa.GRun Go.Proofs.Ytdliilmnfbgplaa.GMade Go.Proofs.Ytdliilmnfbgplaa.GClone Go.Proofs.Ytdliilmnfbgplaa.GSort1 Go.Proofs.Ytdliilmnfbgplaa.GSort Go.Proofs.Ytdliilmnfbgplaa.GNewS Go.Proofs.Ytdliilmnfbgplaa.Hp Go.Proofs.Ytdliilmnfbgplaa.Rd Go.Proofs.Ytdliilmnfbgplaa.Opn
set_option linter.unusedVariables false
set_option linter.unusedSimpArgs false

theorem start_del (x : Nd) : isDel (GMod.start x) = decide (x.kind = 6) := by
  unfold GMod.start
  by_cases h1 : x.kind = 1
  · rw [if_pos h1, h1]; rfl
  by_cases h2 : x.kind = 2
  · rw [if_neg h1, if_pos h2, h2]; rfl
  by_cases h3 : x.kind = 3
  · rw [if_neg h1, if_neg h2, if_pos h3, h3]; rfl
  by_cases h4 : x.kind = 4
  · rw [if_neg h1, if_neg h2, if_neg h3, if_pos h4, h4]; rfl
  by_cases h5 : x.kind = 5
  · rw [if_neg h1, if_neg h2, if_neg h3, if_neg h4, if_pos h5, h5]; rfl
  by_cases h6 : x.kind = 6
  · rw [if_neg h1, if_neg h2, if_neg h3, if_neg h4, if_neg h5, if_pos h6, h6]; rfl
  rw [if_neg h1, if_neg h2, if_neg h3, if_neg h4, if_neg h5, if_neg h6, decide_eq_false h6]
  split <;> rfl

/-- What a node without fault is like. -/
theorem made_ok {g : Gd} {x : Nd} (h : madeE g x = 0) : manyZ x.kind ≠ -2 ∧ (manyZ x.kind < 0 ∨ manyZ x.kind = (x.from_.length : Int)) ∧ (∀ k ∈ x.from_, 0 ≤ k ∧ k < (g.nodes.length : Int)) ∧ (x.kind = 1 → 0 ≤ x.n ∧ x.n < g.ins) ∧ (x.kind = 6 → 1 ≤ x.n ∧ x.n ≤ 4096) ∧
    (x.kind = 7 → GFNew.okAll x.co = true) ∧ (x.kind = 8 → GVMod.wrongP x.pt = 0) := by
  unfold madeE at h
  by_cases h1 : manyZ x.kind = -2
  · rw [if_pos h1] at h; cases h
  rw [if_neg h1] at h
  by_cases h2 : 0 ≤ manyZ x.kind ∧ manyZ x.kind ≠ (x.from_.length : Int)
  · rw [if_pos h2] at h; cases h
  rw [if_neg h2] at h
  by_cases h3 : x.from_.any (badRef g.nodes.length) = true
  · rw [if_pos h3] at h; cases h
  rw [if_neg h3] at h
  refine ⟨h1, ?_, fun k hk => ?_, fun e => ?_, fun e => ?_, fun e => ?_, fun e => ?_⟩
  · by_cases e : 0 ≤ manyZ x.kind
    · exact .inr (Classical.byContradiction fun e2 => h2 ⟨e, e2⟩)
    · left; omega
  · have h4 : badRef g.nodes.length k = false := by
      cases hb : badRef g.nodes.length k with
      | false => rfl
      | true => exact absurd (List.any_eq_true.2 ⟨k, hk, hb⟩) h3
    unfold badRef at h4
    simp only [Bool.or_eq_false_iff, decide_eq_false_iff_not] at h4
    omega
  · simp only [e, if_true] at h
    split at h
    · cases h
    · omega
  · have e1 : ¬ x.kind = 1 := by omega
    simp only [if_neg e1, if_pos e] at h
    split at h
    · cases h
    · omega
  · have e1 : ¬ x.kind = 1 := by omega
    have e2 : ¬ x.kind = 6 := by omega
    simp only [if_neg e1, if_neg e2, if_pos e] at h
    split at h
    · assumption
    · cases h
  · have e1 : ¬ x.kind = 1 := by omega
    have e2 : ¬ x.kind = 6 := by omega
    have e3 : ¬ x.kind = 7 := by omega
    simp only [if_neg e1, if_neg e2, if_neg e3, if_pos e] at h
    exact h

theorem fits_start {g : Gd} {x : Nd} (h : madeE g x = 0) : Fits g x (GMod.start x) := by
  obtain ⟨h1, h2, h3, h4, h5, h6, h7⟩ := made_ok h
  have hone : manyZ x.kind = 1 → ∃ k : Nat, x.from_ = [(k : Int)] := fun e => by
    rw [e] at h2
    have hl : x.from_.length = 1 := by omega
    match hf : x.from_, hl with
    | [k], _ =>
      have := (h3 k (by rw [hf]; simp)).1
      exact ⟨k.toNat, by rw [Int.toNat_of_nonneg this]⟩
  have hnil : manyZ x.kind = 0 → x.from_ = [] := fun e => by
    rw [e] at h2
    have hl : x.from_.length = 0 := by omega
    exact List.eq_nil_of_length_eq_zero hl
  have hln : ∀ m : Nat, manyZ x.kind = (m : Int) → m ≤ x.from_.length := fun m e => by omega
  refine ⟨fun e => ?_, fun e => ?_, fun k e => ?_, fun hne => ?_⟩
  · rw [start_del] at e
    have e := of_decide_eq_true e
    exact ⟨e, hone (by rw [e]; decide)⟩
  · rw [start_del] at e
    exact of_decide_eq_false e
  · rcases many_cases x.kind with hk | hk | hk | hk | hk | hk | hk | hk | hk
    · unfold GMod.start at e
      rw [if_pos hk] at e
      injection e with e
      have := h4 hk
      exact ⟨by omega, hnil (by rw [hk]; decide)⟩
    all_goals (unfold GMod.start at e; simp [hk] at e)
  · rcases many_cases x.kind with hk | hk | hk | hk | hk | hk | hk | hk | hk
    · exact absurd (by unfold GMod.start; rw [if_pos hk]) (hne x.n.toNat)
    · have : GMod.start x = .con (cn x.x) := by unfold GMod.start; simp [hk]
      rw [this]; trivial
    · have : GMod.start x = .gai (cn x.x) := by unfold GMod.start; simp [hk]
      rw [this]; exact hln 1 (by rw [hk]; decide)
    · have : GMod.start x = .mix := by unfold GMod.start; simp [hk]
      rw [this]; trivial
    · have : GMod.start x = .tim := by unfold GMod.start; simp [hk]
      rw [this]; exact hln 2 (by rw [hk]; decide)
    · have : GMod.start x = .del (List.replicate x.n.toNat 0) 0 := by unfold GMod.start; simp [hk]
      rw [this]; trivial
    · have : GMod.start x = .fil x.co GFNew.rest0 := by unfold GMod.start; simp [hk]
      rw [this]; exact hln 1 (by rw [hk]; decide)
    · have : GMod.start x = .sin x.pt GVWalk.st0 := by unfold GMod.start; simp [hk]
      rw [this]; trivial
    · exact absurd hk.1 h1

/-- The search begins. -/
theorem ordi_s0 (g : Gd) (n : Nat) : OrdI g (s0 n) := by
  refine ⟨fun j => ?_, by simp [s0], fun l1 i l2 h => by simp [s0] at h, fun j => ?_⟩
  case refine_2 =>
    unfold s0
    dsimp only
    rw [List.getD_eq_getElem?_getD, List.getElem?_replicate]
    split <;> simp
  constructor
  · intro h; simp [s0] at h
  · rintro ⟨h, _⟩
    unfold s0 at h
    dsimp only at h
    rw [List.getD_eq_getElem?_getD, List.getElem?_replicate] at h
    split at h <;> cases h

theorem gok_new {g : Gd} {s : Sr} (hs : 256 ≥ g.nodes.length) (hm : ∀ x ∈ g.nodes, madeE g x = 0) (hfl : ∀ x ∈ g.nodes, x.from_.length ≤ 1048576) (hv : Vis g (s0 g.nodes.length) (.inr (List.range g.nodes.length)) true s) (hsl : s.order.length ≤ g.nodes.length) (ho : g.outs.length ≤ 256) (hob : ∀ k ∈ g.outs, 0 ≤ k ∧ k < (g.nodes.length : Int)) (hi : 0 ≤ g.ins ∧ g.ins ≤ 16) :
    GOk g s.order (g.nodes.map GMod.start) := by
  have hoi := vis_ord hv (ordi_s0 g _) rfl
  have hkeep := vis_keep hv
  have hlt : ∀ j, s.st.getD j 0 = 2 → j < g.nodes.length := fun j hj => by
    have hl : s.st.length = g.nodes.length := by rw [hkeep.1]; simp [s0]
    rcases Nat.lt_or_ge j s.st.length with h | h
    · omega
    · rw [List.getD_eq_getElem?_getD, List.getElem?_eq_none h] at hj
      cases hj
  refine ⟨hs, by rw [List.length_map], fun i x st hx hst => ?_, fun i x hx => ⟨hfl x (List.mem_of_getElem? hx), (made_ok (hm x (List.mem_of_getElem? hx))).2.2.1⟩, fun i hi2 => ?_, by omega, hoi.nodup, fun i hi2 x hx k hk e => ?_, ⟨ho, hob⟩, hi⟩
  · rw [List.getElem?_map, hx] at hst
    simp at hst
    subst hst
    exact fits_start (hm x (List.mem_of_getElem? hx))
  · have h := (hoi.mem i).1 hi2
    exact ⟨hlt i h.1, h.2⟩
  · subst e
    have h := (hoi.mem i).1 hi2
    obtain ⟨l1, l2, e⟩ := List.append_of_mem hi2
    have hd : isD g i = false := h.2
    have hkd : x.kind ≠ 6 := by
      unfold isD at hd
      rw [hx] at hd
      simpa using hd
    have he : GOrd.Edge g i i := by
      unfold GOrd.Edge asks
      rw [hx]
      dsimp only
      rw [if_neg hkd, List.mem_map]
      exact ⟨(i : Int), hk, Int.toNat_natCast i⟩
    have h2 := hoi.pre l1 i l2 e i he hd
    have hn := hoi.nodup
    rw [e, List.nodup_append] at hn
    exact hn.2.2 i h2 i (List.mem_cons_self ..) rfl

/-- The graph in memory, when it is laid out. -/
theorem NwS.fin {B : Nat} {w1 w2 w3 : World} {gb pb M N : Nat} {g : Gd} {oa2 : Option Addr} {oc2 c : Nat} {na : Option Addr} {nc : Nat} {va : Option Addr} {vc : Nat} {ps : List (Nd × Value)} {vs : List Value} {Q : Nat → Prop} {A : Nat → Nat → Prop} {order : List Nat} {ra : Option Addr} {rc : Nat}
    (h : NwS B w1 gb g (.slice oa2 M oc2) N N c na nc va vc ps vs Q A) (hpm : ps.map Prod.fst = g.nodes) (hN : g.nodes.length = N) (hM : g.outs.length = M)
    (hf : Fr (fun i => i = gb) w1 w2) (hrow : w2.heap[gb]? = some (.cells #[.int .i64 g.ins, .slice na N nc, .slice oa2 M oc2, .slice va N vc, .slice ra order.length rc, .int .i64 (c : Int), .slice none 0 0] 69 (0, 0)))
    (hown : w2.ownsRow w1.heap.size 3 1 (.slice ra order.length rc) order.length (flC iC (order.map fun k : Nat => (k : Int))))
    (hg : w2.grownBy w3 none) (hpb : w3.heap[pb]? = some (.cells (List.replicate N (.slice none 0 0)).toArray 38 (0, 0))) (hpl : w2.heap.size ≤ pb) (hok : GOk g order (g.nodes.map GMod.start)) (hc : 0 < c ∧ c ≤ 65536) :
    GSt (w3.setCell ⟨gb, 6, none⟩ (.slice (some ⟨pb, 0, none⟩) N N)) (fun b => Q b ∨ b = gb ∨ (Value.slice na N nc).ownBlock = some b ∨ (Value.slice va N vc).ownBlock = some b ∨ (Value.slice ra order.length rc).ownBlock = some b) A ⟨gb, pb, na, nc, oa2, oc2, va, vc, ra, rc⟩ g order c vs (g.nodes.map GMod.start) := by
  have hf3 : Fr (fun i => i = gb) w1 (w3.setCell ⟨gb, 6, none⟩ (.slice (some ⟨pb, 0, none⟩) N N)) :=
    (hf.trans (.none hg)).trans (fr_set (X := fun b => b = gb) (p := ⟨gb, 6, none⟩) (Fr.refl _ _) (.inl rfl) _)
  have hf23 : Fr (fun i => i = gb) w2 (w3.setCell ⟨gb, 6, none⟩ (.slice (some ⟨pb, 0, none⟩) N N)) := (Fr.none hg).trans (fr_set (X := fun b => b = gb) (p := ⟨gb, 6, none⟩) (Fr.refl _ _) (.inl rfl) _)
  have hs12 := hf.size
  have hs3 := hf23.size
  have hgl := lt_of h.row
  have hpl2 := lt_of hpb
  have hss : (w3.setCell ⟨gb, 6, none⟩ (.slice (some ⟨pb, 0, none⟩) N N)).heap.size = w3.heap.size := size_set _ _ _
  have hnl : ∀ b, (Value.slice na N nc).ownBlock = some b → b < w1.heap.size := fun b e => (own_base h.nown e).2
  have hvl : ∀ b, (Value.slice va N vc).ownBlock = some b → b < w1.heap.size := fun b e => (own_base h.vown e).2
  have hrl : ∀ b, (Value.slice ra order.length rc).ownBlock = some b → w1.heap.size ≤ b ∧ b < w2.heap.size := fun b e => own_base hown e
  refine ⟨⟨.inr (.inl rfl), ?_, ⟨ps, hpm, ?_, fun p hp => ?_⟩, ?_, by rw [h.vl, hN], ?_, ?_⟩, ⟨by rw [h.vl, List.length_map, hN], fun i v st hv hst => ?_⟩, ⟨List.replicate N (.slice none 0 0), ?_, by rw [List.length_replicate, hN]⟩, ⟨?_, ?_, ?_, h.aa, ?_, ?_, ?_⟩, hok, hc⟩
  · rw [set_self (row_kept hg hrow (by simp)), hN, hM]
    rfl
  · rw [hN]
    have h1 := own_fr h.nown hf3 (fun b hb e => h.ng (by rw [hb, e]))
    exact sla_of_own ndC_len (xs := ps) (by rw [h.pl]; exact h1) _ (fun b hb => .inr (.inr (.inl hb)))
  · exact ((h.fs p hp).fr hf3 (fun b hb => (h.q b hb).2.2.1)).mono (fun b => .inl)
  · rw [hM]
    exact (h.outs.fr hf3 (fun b hb => (h.q b hb).2.2.1)).mono (fun b => .inl)
  · rw [hN]
    have h1 := own_fr h.vown hf3 (fun b hb e => h.vg (by rw [hb, e]))
    exact sla_of_own vC_len (xs := vs) (by rw [h.vl]; exact h1) _ (fun b hb => .inr (.inr (.inr (.inl hb))))
  · have h1 := own_fr hown hf23 (fun b hb e => by have := (hrl b hb).1; omega)
    exact sla_of_own iC_len (xs := order.map fun k : Nat => (k : Int)) (by rw [List.length_map]; exact h1) _ (fun b hb => .inr (.inr (.inr (.inr hb))))
  · rw [List.getElem?_map] at hst
    cases hx : g.nodes[i]? with
    | none => rw [hx] at hst; cases hst
    | some x =>
      rw [hx] at hst
      simp at hst
      subst hst
      exact (h.ns i v x hv hx).fr hf3 (fun b hb => (h.a i b hb).2.2.1)
  · exact (fr_set (X := fun b => b = gb) (p := ⟨gb, 6, none⟩) (Fr.refl _ w3) (.inl rfl) _).row hpb (fun e => by dsimp only at e; omega)
  · rintro (e | e | e | e | e)
    · have := (h.q _ e).2.1
      dsimp only at this
      omega
    · dsimp only at e
      omega
    · have := hnl _ e
      dsimp only at this
      omega
    · have := hvl _ e
      dsimp only at this
      omega
    · have := (hrl _ e).2
      dsimp only at this
      omega
  · rintro i b (e | e | e | e | e) e2
    · exact h.qa i b e e2
    · exact (h.a i b e2).2.2.1 e
    · exact (h.a i b e2).2.2.2.1 e
    · exact (h.a i b e2).2.2.2.2 e
    · have := (h.a i b e2).2.1
      have := (hrl b e).1
      omega
  · intro i e
    have := (h.a i _ e).2.1
    dsimp only at this
    omega
  · rintro b (e | e | e | e | e)
    · have := (h.q b e).2.1
      omega
    · omega
    · have := hnl b e
      omega
    · have := hvl b e
      omega
    · have := (hrl b e).2
      omega
  · intro i b e
    have := (h.a i b e).2.1
    omega
  · dsimp only
    omega
end Go.Proofs.Ytdliilmnfbgplaa.GNewF

/- At rest it is as new: plain. -/
namespace Go.Proofs.Ytdliilmnfbgplaa.GRestsP
open Go Go.Proofs.Ytdliilmnfbgplaa.Fl Go.Proofs.Ytdliilmnfbgplaa.GMod Go.Proofs.Ytdliilmnfbgplaa.GOrd Go.Proofs.Ytdliilmnfbgplaa.GPState Go.Proofs.Ytdliilmnfbgplaa.GOuts
set_option linter.unusedVariables false
set_option linter.unusedSimpArgs false

theorem hear_len : ∀ (l r : List Nat) (a : Nat), (hearN r a l).1.length = r.length
  | [], r, a => rfl
  | x :: l, r, a => by
    unfold hearN
    rw [hear_len l, List.length_set]
theorem rest_run (s : NS) (ls : List (List Nat)) (n : Nat) : restN (GMod.runN s ls n).2 = restN s := by cases s <;> rfl
theorem rest_end (past : List (List Nat)) (x : Nd) (s : NS) : restN (endN past x s) = restN s := by
  cases s <;> try rfl
  rename_i r a
  show NS.del (List.replicate (hearN r a _).1.length 0) 0 = NS.del (List.replicate r.length 0) 0
  rw [hear_len]
theorem rest_play (g : Gd) (ls : List (List Nat)) (n : Nat) : ∀ (l : List Nat) (past : List (List Nat)) (sts : List NS), (playN g ls n l (past, sts)).2.map restN = sts.map restN
  | [], past, sts => rfl
  | i :: l, past, sts => by
    cases hx : g.nodes[i]? with
    | none =>
      have e : playN g ls n (i :: l) (past, sts) = playN g ls n l (past, sts) := by simp [playN, hx]
      rw [e]
      exact rest_play g ls n l past sts
    | some x =>
      cases hs : sts[i]? with
      | none =>
        have e : playN g ls n (i :: l) (past, sts) = playN g ls n l (past, sts) := by simp [playN, hx, hs]
        rw [e]
        exact rest_play g ls n l past sts
      | some s =>
        have e : playN g ls n (i :: l) (past, sts) = playN g ls n l (past.set i (GMod.runN s (heardN ls past x s) n).1, sts.set i (GMod.runN s (heardN ls past x s) n).2) := by simp [playN, hx, hs]
        rw [e, rest_play g ls n l, List.map_set, rest_run]
        apply List.ext_getElem?
        intro j
        by_cases hj : i = j
        · subst hj
          have hi := (List.getElem?_eq_some_iff.1 hs).1
          rw [List.getElem?_set_self (by simpa using hi), List.getElem?_map, hs]
          rfl
        · rw [List.getElem?_set_ne hj]
theorem play_len (g : Gd) (ls : List (List Nat)) (n : Nat) : ∀ (l : List Nat) (past : List (List Nat)) (sts : List NS), (playN g ls n l (past, sts)).2.length = sts.length ∧ (playN g ls n l (past, sts)).1.length = past.length
  | [], past, sts => ⟨rfl, rfl⟩
  | i :: l, past, sts => by
    cases hx : g.nodes[i]? with
    | none =>
      have e : playN g ls n (i :: l) (past, sts) = playN g ls n l (past, sts) := by simp [playN, hx]
      rw [e]
      exact play_len g ls n l past sts
    | some x =>
      cases hs : sts[i]? with
      | none =>
        have e : playN g ls n (i :: l) (past, sts) = playN g ls n l (past, sts) := by simp [playN, hx, hs]
        rw [e]
        exact play_len g ls n l past sts
      | some s =>
        have e : playN g ls n (i :: l) (past, sts) = playN g ls n l (past.set i (GMod.runN s (heardN ls past x s) n).1, sts.set i (GMod.runN s (heardN ls past x s) n).2) := by simp [playN, hx, hs]
        rw [e]
        have h := play_len g ls n l (past.set i (GMod.runN s (heardN ls past x s) n).1) (sts.set i (GMod.runN s (heardN ls past x s) n).2)
        rw [List.length_set, List.length_set] at h
        exact h
theorem rest_zip (past : List (List Nat)) : ∀ (xs : List Nd) (sts : List NS), sts.length = xs.length → (List.zipWith (endN past) xs sts).map restN = sts.map restN
  | [], [], _ => rfl
  | [], _ :: _, h => by simp at h
  | _ :: _, [], h => by simp at h
  | x :: xs, s :: sts, h => by
    simp only [List.zipWith_cons_cons, List.map_cons]
    rw [rest_end, rest_zip past xs sts (by simpa using h)]
theorem rest_piece (g : Gd) (order : List Nat) (sts : List NS) (ls : List (List Nat)) (n : Nat) (hl : sts.length = g.nodes.length) : (pieceN g order sts ls n).2.map restN = sts.map restN ∧ (pieceN g order sts ls n).2.length = g.nodes.length := by
  unfold pieceN
  have h1 := play_len g ls n order (sts.map (past0 n)) sts
  have h2 := rest_play g ls n order (sts.map (past0 n)) sts
  dsimp only
  constructor
  · rw [rest_zip _ _ _ (h1.1.trans hl), h2]
  · rw [List.length_zipWith, h1.1, hl, Nat.min_self]
theorem rest_chunks (g : Gd) (order : List Nat) (chunk : Nat) (ls : List (List Nat)) (n : Nat) : ∀ (f a : Nat) (sts : List NS) (outs : List (List Nat)), sts.length = g.nodes.length → (chunksN g order chunk ls n f a sts outs).2.map restN = sts.map restN ∧ (chunksN g order chunk ls n f a sts outs).2.length = g.nodes.length
  | 0, a, sts, outs, h => ⟨rfl, h⟩
  | f + 1, a, sts, outs, h => by
    unfold chunksN
    split
    · have h1 := rest_piece g order sts (ls.map fun l => (l.drop a).take (min chunk (n - a))) (min chunk (n - a)) h
      have h2 := rest_chunks g order chunk ls n f (a + min chunk (n - a)) (pieceN g order sts (ls.map fun l => (l.drop a).take (min chunk (n - a))) (min chunk (n - a))).2 (List.zipWith (fun o (k : Int) => o ++ (pieceN g order sts (ls.map fun l => (l.drop a).take (min chunk (n - a))) (min chunk (n - a))).1.getD k.toNat []) outs g.outs) h1.2
      exact ⟨h2.1.trans h1.1, h2.2⟩
    · exact ⟨rfl, h⟩
theorem rest_runG (g : Gd) (order : List Nat) (chunk : Nat) (sts : List NS) (ls : List (List Nat)) (n : Int) (h : sts.length = g.nodes.length) : (runG g order chunk sts ls n).2.map restN = sts.map restN ∧ (runG g order chunk sts ls n).2.length = g.nodes.length := by
  unfold runG
  split
  · exact ⟨rfl, h⟩
  · exact rest_chunks g order chunk ls n.toNat n.toNat 0 sts _ h
theorem rest_start (x : Nd) : restN (GMod.start x) = GMod.start x := by
  unfold GMod.start
  split
  · rfl
  split
  · rfl
  split
  · rfl
  split
  · rfl
  split
  · rfl
  split
  · show NS.del (List.replicate (List.replicate x.n.toNat 0).length 0) 0 = _
    rw [List.length_replicate]
  split <;> rfl
theorem rest_starts (l : List Nd) : (l.map GMod.start).map restN = l.map GMod.start := by
  rw [List.map_map]
  apply List.map_congr_left
  intro x _
  exact rest_start x

/-- What is heard behind a rest is what is heard at first. -/
theorem rests (g : Gd) (order : List Nat) (chunk : Nat) (ls ss : List (List Nat)) (n m : Int) : ∃ r1 r2, soundG g order chunk (g.nodes.map GMod.start) [⟨ls, n, false⟩, ⟨ss, m, false⟩, ⟨ls, n, true⟩] = [r1, r2, r1] ∧ r1 = (runG g order chunk (g.nodes.map GMod.start) ls n).1 := by
  have hl : (g.nodes.map GMod.start).length = g.nodes.length := by simp
  have h1 := rest_runG g order chunk (g.nodes.map GMod.start) ls n hl
  have h2 := rest_runG g order chunk (runG g order chunk (g.nodes.map GMod.start) ls n).2 ss m h1.2
  refine ⟨(runG g order chunk (g.nodes.map GMod.start) ls n).1, (runG g order chunk (runG g order chunk (g.nodes.map GMod.start) ls n).2 ss m).1, ?_, rfl⟩
  simp only [soundG, Bool.false_eq_true, if_false, if_true]
  rw [h2.1, h1.1, rest_starts]

/-! ### no row is too long -/
theorem getD_le {ls : List (List Nat)} {n : Nat} (h : ∀ l ∈ ls, l.length ≤ n) (i : Nat) : (ls.getD i []).length ≤ n := by
  rw [List.getD_eq_getElem?_getD]
  cases hl : ls[i]? with
  | none => exact Nat.zero_le _
  | some l => exact h l (List.mem_of_getElem? hl)
theorem mix_le {n : Nat} : ∀ (l : List (List Nat)) (a : List Nat), a.length ≤ n → (l.foldl (List.zipWith fadd) a).length ≤ n
  | [], a, h => h
  | x :: l, a, h => mix_le l _ (by rw [List.length_zipWith]; omega)
theorem outs_len (c : Co) : ∀ (xs : List Nat) (s : GFRun.St), (GFRun.outs c s xs).length = xs.length
  | [], s => rfl
  | x :: l, s => by simp only [GFRun.outs, List.length_cons]; rw [outs_len c l]
theorem run_le (s : NS) {hs : List (List Nat)} {n : Nat} (h : ∀ l ∈ hs, l.length ≤ n) : (GMod.runN s hs n).1.length ≤ n := by
  cases s with
  | ent k => exact getD_le h 0
  | con x => simp [GMod.runN]
  | gai x => simp only [GMod.runN, List.length_map]; exact getD_le h 0
  | mix =>
    simp only [GMod.runN]
    unfold mixN
    cases hs with
    | nil => simp
    | cons a l => exact mix_le l a (h a (List.mem_cons_self ..))
  | tim => simp only [GMod.runN, List.length_zipWith]; have := getD_le h 0; omega
  | del r a => simp [GMod.runN]
  | fil c s => simp only [GMod.runN]; rw [outs_len]; exact getD_le h 0
  | sin p s => simp only [GMod.runN, List.length_map]; rw [GVMod.play_len]; exact Nat.le_refl _
theorem heard_le {ins past : List (List Nat)} {n : Nat} (hi : ∀ l ∈ ins, l.length ≤ n) (hp : ∀ l ∈ past, l.length ≤ n) (x : Nd) (s : NS) : ∀ l ∈ heardN ins past x s, l.length ≤ n := by
  intro l hl
  unfold heardN at hl
  rw [List.mem_append] at hl
  rcases hl with hl | hl
  · cases s <;> simp at hl
    subst hl
    have := getD_le hi
    simpa [List.getD_eq_getElem?_getD] using this _
  · rw [List.mem_map] at hl
    obtain ⟨k, _, rfl⟩ := hl
    exact getD_le hp _
theorem play_le (g : Gd) (ls : List (List Nat)) (n : Nat) (hi : ∀ l ∈ ls, l.length ≤ n) : ∀ (l : List Nat) (past : List (List Nat)) (sts : List NS), (∀ l ∈ past, l.length ≤ n) → ∀ l' ∈ (playN g ls n l (past, sts)).1, l'.length ≤ n
  | [], past, sts, hp => hp
  | i :: l, past, sts, hp => by
    cases hx : g.nodes[i]? with
    | none =>
      have e : playN g ls n (i :: l) (past, sts) = playN g ls n l (past, sts) := by simp [playN, hx]
      rw [e]
      exact play_le g ls n hi l past sts hp
    | some x =>
      cases hs : sts[i]? with
      | none =>
        have e : playN g ls n (i :: l) (past, sts) = playN g ls n l (past, sts) := by simp [playN, hx, hs]
        rw [e]
        exact play_le g ls n hi l past sts hp
      | some s =>
        have e : playN g ls n (i :: l) (past, sts) = playN g ls n l (past.set i (GMod.runN s (heardN ls past x s) n).1, sts.set i (GMod.runN s (heardN ls past x s) n).2) := by simp [playN, hx, hs]
        rw [e]
        refine play_le g ls n hi l _ _ (fun l' hl' => ?_)
        rcases List.mem_or_eq_of_mem_set hl' with h | h
        · exact hp l' h
        · rw [h]
          exact run_le s (heard_le hi hp x s)
theorem past0_le (n : Nat) (s : NS) : (past0 n s).length ≤ n := by
  cases s <;> simp [past0, tellN]
theorem piece_le (g : Gd) (order : List Nat) (sts : List NS) (ls : List (List Nat)) (n : Nat) (hi : ∀ l ∈ ls, l.length ≤ n) : ∀ l ∈ (pieceN g order sts ls n).1, l.length ≤ n := by
  unfold pieceN
  refine play_le g ls n hi order _ _ (fun l hl => ?_)
  rw [List.mem_map] at hl
  obtain ⟨s, _, rfl⟩ := hl
  exact past0_le n s
theorem chunks_le (g : Gd) (order : List Nat) (chunk : Nat) (ls : List (List Nat)) (n : Nat) : ∀ (f a : Nat) (sts : List NS) (outs : List (List Nat)), a ≤ n → (∀ o ∈ outs, o.length ≤ a) → outs.length ≤ g.outs.length →
    (∀ o ∈ (chunksN g order chunk ls n f a sts outs).1, o.length ≤ n) ∧ (chunksN g order chunk ls n f a sts outs).1.length ≤ g.outs.length
  | 0, a, sts, outs, ha, ho, hl => ⟨fun o h => Nat.le_trans (ho o h) ha, hl⟩
  | f + 1, a, sts, outs, ha, ho, hl => by
    unfold chunksN
    split
    · refine chunks_le g order chunk ls n f _ _ _ (by omega) (fun o h => ?_) (by rw [List.length_zipWith]; omega)
      obtain ⟨i, hi⟩ := List.mem_iff_getElem?.1 h
      rw [List.getElem?_zipWith] at hi
      cases h1 : outs[i]? with
      | none => rw [h1] at hi; cases hi
      | some o1 =>
        cases h2 : g.outs[i]? with
        | none => rw [h1, h2] at hi; cases hi
        | some z1 =>
          rw [h1, h2] at hi
          simp only [Option.some.injEq] at hi
          subst hi
          rw [List.length_append]
          have h3 := ho o1 (List.mem_of_getElem? h1)
          have h4 := getD_le (piece_le g order sts (ls.map fun l => (l.drop a).take (min chunk (n - a))) (min chunk (n - a)) (fun l hl => by
            rw [List.mem_map] at hl
            obtain ⟨l0, _, rfl⟩ := hl
            rw [List.length_take]
            omega)) z1.toNat
          omega
    · exact ⟨fun o h => Nat.le_trans (ho o h) ha, hl⟩
theorem runG_le (g : Gd) (order : List Nat) (chunk : Nat) (sts : List NS) (ls : List (List Nat)) (n : Int) : (∀ o ∈ (runG g order chunk sts ls n).1.1, o.length ≤ n.toNat) ∧ (runG g order chunk sts ls n).1.1.length ≤ g.outs.length := by
  unfold runG
  split
  · exact ⟨fun o h => by simp at h, Nat.zero_le _⟩
  · refine chunks_le g order chunk ls n.toNat n.toNat 0 sts _ (Nat.zero_le _) (fun o h => ?_) (by rw [List.length_replicate]; exact Nat.le_refl _)
    rw [List.eq_of_mem_replicate h]
    exact Nat.zero_le _
end Go.Proofs.Ytdliilmnfbgplaa.GRestsP
