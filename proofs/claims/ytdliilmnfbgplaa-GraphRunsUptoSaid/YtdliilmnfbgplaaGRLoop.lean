/- The reference asks whether anything listens to itself: the walk. -/
import Derived.Test.YtdliilmnfbgplaaGRLoopP
import Derived.Test.YtdliilmnfbgplaaGRNode
namespace Go.Proofs.Ytdliilmnfbgplaa.GRLoop
open Go Go.RowKit Go.Proofs.Ytdliilmnfbgplaa.GPiece Go.Proofs.Ytdliilmnfbgplaa.Fl Go.Proofs.Ytdliilmnfbgplaa.Fw Go.Proofs.Ytdliilmnfbgplaa.GRd Go.Proofs.Ytdliilmnfbgplaa.GCells Go.Proofs.Ytdliilmnfbgplaa.GStep Go.Proofs.Ytdliilmnfbgplaa.GMod Go.Proofs.Ytdliilmnfbgplaa.GOrd Go.Proofs.Ytdliilmnfbgplaa.GMem Go.Proofs.Ytdliilmnfbgplaa.GNode Go.Proofs.Ytdliilmnfbgplaa.GNode4 Go.Proofs.Ytdliilmnfbgplaa.GPMem Go.Proofs.Ytdliilmnfbgplaa.GPState Go.Proofs.Ytdliilmnfbgplaa.GSub Go.Proofs.Ytdliilmnfbgplaa.GMade Go.Proofs.Ytdliilmnfbgplaa.GClone Go.Proofs.Ytdliilmnfbgplaa.GRLoopP Go.Proofs.Ytdliilmnfbgplaa.Hp Go.Proofs.Ytdliilmnfbgplaa.Rd Go.Proofs.Ytdliilmnfbgplaa.Opn
set_option linter.unusedVariables false
set_option linter.unusedSimpArgs false

theorem info4 : (Try.prog.info? 4).map (fun i => (i.zero, i.size, i.bytes)) = some (some (.bool false), 1, 1) := by kernel_rfl
theorem info45 : (Try.prog.info? 45).map (fun i => (i.zero, i.size, i.bytes)) = some (some (.slice none 0 0), 1, 24) := by kernel_rfl

def slV (N b : Nat) : Value := .slice (some ⟨b, 0, none⟩) N N
/-- The table in memory. -/
structure Mat (w : World) (rb N : Nat) (bs : List Nat) (m : List (List Bool)) : Prop where
  row : w.heap[rb]? = some (.cells (bs.map (slV N) ++ List.replicate (N - bs.length) (Value.slice none 0 0)).toArray 45 (0, 0))
  len : bs.length = m.length
  le : bs.length ≤ N
  cell : ∀ (i b : Nat) (l : List Bool), bs[i]? = some b → m[i]? = some l → w.heap[b]? = some (Obj.cells (l.map Value.bool).toArray 4 (0, 0))
  rl : ∀ l ∈ m, l.length = N
  nd : ∀ (i j b : Nat), bs[i]? = some b → bs[j]? = some b → i = j
  lt : ∀ b ∈ bs, rb < b ∧ b < w.heap.size
section
variable {w w2 : World} {rb N : Nat} {bs : List Nat} {m : List (List Bool)}
theorem Mat.grown (h : Mat w rb N bs m) (hg : w.grownBy w2 none) : Mat w2 rb N bs m :=
  ⟨row_kept hg h.row (by simp), h.len, h.le, fun i b l hb hl => row_kept hg (h.cell i b l hb hl) (by simp), h.rl, h.nd, fun b hb => ⟨(h.lt b hb).1, Nat.lt_of_lt_of_le (h.lt b hb).2 hg.size⟩⟩
theorem Mat.at_ (h : Mat w rb N bs m) {i : Nat} (hi : i < m.length) : ∃ b, bs[i]? = some b ∧ w.cell? ⟨rb, i, none⟩ = some (.slice (some ⟨b, 0, none⟩) N N) ∧ (∀ k, k < N → w.cell? ⟨b, k, none⟩ = some (.bool (mget m i k))) ∧ ∀ k, w.frozen? ⟨b, k, none⟩ = false := by
  obtain ⟨b, hb⟩ : ∃ b, bs[i]? = some b := ⟨bs[i]'(by rw [h.len]; exact hi), List.getElem?_eq_getElem _⟩
  have hl : m[i]? = some (m.getD i []) := by rw [List.getD_eq_getElem?_getD, List.getElem?_eq_getElem hi]; rfl
  refine ⟨b, hb, ?_, fun k hk => ?_, fun k => free_of (h.cell i b _ hb hl) k⟩
  · rw [cell_of h.row, List.getElem?_toArray, List.getElem?_append_left (by rw [List.length_map, h.len]; exact hi), List.getElem?_map, hb]
    rfl
  · rw [cell_of (h.cell i b _ hb hl), List.getElem?_toArray, List.getElem?_map]
    have hll : (m.getD i []).length = N := h.rl _ (List.mem_of_getElem? hl)
    unfold mget
    rw [List.getD_eq_getElem?_getD (l := m.getD i []), List.getElem?_eq_getElem (by omega)]
    rfl
theorem Mat.new_ (h : Mat w rb N bs m) (hk : bs.length < N) : w.cell? ⟨rb, bs.length, none⟩ = some (.slice none 0 0) ∧ w.frozen? ⟨rb, bs.length, none⟩ = false := by
  refine ⟨?_, free_of h.row _⟩
  rw [cell_of h.row, List.getElem?_toArray, List.getElem?_append_right (by simp), List.length_map, Nat.sub_self, List.getElem?_replicate, if_pos (by omega)]
theorem Mat.set (h : Mat w rb N bs m) {i k b : Nat} (hb : bs[i]? = some b) (hk : k < N) : Mat (w.setCell ⟨b, k, none⟩ (.bool true)) rb N bs (mset m i k) := by
  have hi : i < m.length := by rw [← h.len]; exact (List.getElem?_eq_some_iff.1 hb).1
  have hl : m[i]? = some (m.getD i []) := by rw [List.getD_eq_getElem?_getD, List.getElem?_eq_getElem hi]; rfl
  have hne : rb ≠ b := by have := h.lt b (List.mem_of_getElem? hb); omega
  refine ⟨by rw [set_other hne]; exact h.row, by rw [mset_len]; exact h.len, h.le, fun j b2 l hb2 hl2 => ?_, mset_rows h.rl hi, h.nd, fun b hb => by rw [size_set]; exact h.lt b hb⟩
  unfold mset at hl2
  by_cases e : i = j
  · subst e
    rw [hb] at hb2
    injection hb2 with hb2
    subst hb2
    rw [List.getElem?_set_self hi] at hl2
    injection hl2 with hl2
    subst hl2
    rw [set_self (h.cell i b _ hb hl), List.map_set]
    simp
  · rw [List.getElem?_set_ne e] at hl2
    rw [set_other (fun e2 => e (h.nd i j b hb (by rw [hb2, e2])))]
    exact h.cell j b2 l hb2 hl2
theorem Mat.push (h : Mat w rb N bs m) (hg : w.grownBy w2 none) {nb : Nat} (hn : w2.heap[nb]? = some (.cells (List.replicate N (Value.bool false)).toArray 4 (0, 0))) (hnb : w.heap.size ≤ nb) (hk : bs.length < N) :
    Mat (w2.setCell ⟨rb, bs.length, none⟩ (slV N nb)) rb N (bs ++ [nb]) (m ++ [List.replicate N false]) := by
  have hrb : rb < w.heap.size := lt_of h.row
  refine ⟨?_, by rw [List.length_append, List.length_append, h.len]; rfl, by rw [List.length_append]; exact hk, fun j b2 l hb2 hl2 => ?_, fun l hl => ?_, fun i j b hi hj => ?_, fun b hb => ?_⟩
  · rw [set_self (row_kept hg h.row (by simp))]
    congr 2
    rw [List.length_append, List.map_append, List.setIfInBounds_toArray]
    congr 1
    apply List.ext_getElem?
    intro j
    rw [List.getElem?_set]
    simp only [List.length_append, List.length_map, List.length_replicate, List.length_cons, List.length_nil, List.map_cons, List.map_nil]
    by_cases e : bs.length = j
    · subst e
      rw [if_pos rfl, if_pos (by omega), List.append_assoc, List.getElem?_append_right (by simp), List.length_map, Nat.sub_self]
      rfl
    · rw [if_neg e]
      by_cases e2 : j < bs.length
      · rw [List.getElem?_append_left (by simpa using e2), List.append_assoc, List.getElem?_append_left (by simpa using e2)]
      · rw [List.getElem?_append_right (by rw [List.length_map]; omega), List.append_assoc, List.getElem?_append_right (by rw [List.length_map]; omega), List.length_map, List.getElem?_append_right (by simp; omega), List.getElem?_replicate, List.getElem?_replicate]
        simp only [List.length_cons, List.length_nil]
        have e3 : (j - bs.length < N - bs.length) ↔ (j - bs.length - (0 + 1) < N - (bs.length + (0 + 1))) := by omega
        by_cases e4 : j - bs.length < N - bs.length
        · rw [if_pos e4, if_pos (e3.1 e4)]
        · rw [if_neg e4, if_neg (fun x => e4 (e3.2 x))]
  · rcases Nat.lt_or_ge j bs.length with hj | hj
    · rw [List.getElem?_append_left hj] at hb2
      rw [List.getElem?_append_left (by rw [← h.len]; exact hj)] at hl2
      have := h.lt b2 (List.mem_of_getElem? hb2)
      rw [set_other (by show b2 ≠ rb; omega)]
      exact row_kept hg (h.cell j b2 l hb2 hl2) (by simp)
    · rw [List.getElem?_append_right hj] at hb2
      rw [List.getElem?_append_right (by rw [← h.len]; exact hj), ← h.len] at hl2
      have hj2 : j - bs.length = 0 := by have := (List.getElem?_eq_some_iff.1 hb2).1; simpa using this
      rw [hj2] at hb2 hl2
      simp at hb2 hl2
      subst hb2 hl2
      rw [set_other (by show nb ≠ rb; omega), hn]
      simp
  · rw [List.mem_append, List.mem_singleton] at hl
    rcases hl with hl | rfl
    · exact h.rl l hl
    · exact List.length_replicate
  · have key : ∀ i, (bs ++ [nb])[i]? = some nb → i = bs.length := fun i hi => by
      rcases Nat.lt_or_ge i bs.length with hj | hj
      · rw [List.getElem?_append_left hj] at hi
        have := h.lt nb (List.mem_of_getElem? hi)
        omega
      · rw [List.getElem?_append_right hj] at hi
        have : i - bs.length = 0 := by have := (List.getElem?_eq_some_iff.1 hi).1; simpa using this
        omega
    by_cases e : b = nb
    · subst e
      rw [key i hi, key j hj]
    · have key2 : ∀ i, (bs ++ [nb])[i]? = some b → bs[i]? = some b := fun i hi => by
        rcases Nat.lt_or_ge i bs.length with hj | hj
        · rw [List.getElem?_append_left hj] at hi
          exact hi
        · rw [List.getElem?_append_right hj] at hi
          have : i - bs.length = 0 := by have := (List.getElem?_eq_some_iff.1 hi).1; simpa using this
          rw [this] at hi
          simp at hi
          exact absurd hi.symm e
      exact h.nd i j b (key2 i hi) (key2 j hj)
  · rw [size_set]
    rw [List.mem_append, List.mem_singleton] at hb
    rcases hb with hb | rfl
    · have := h.lt b hb
      exact ⟨this.1, Nat.lt_of_lt_of_le this.2 hg.size⟩
    · exact ⟨by omega, lt_of hn⟩
end

/-- Does anything listen to itself? -/
noncomputable def loopB (g : Gd) : Bool := @decide (¬ Acy g) (Classical.propDecidable _)
theorem loopB_iff {g : Gd} {b : Bool} (h : b = true ↔ ¬ Acy g) : loopB g = b := by
  unfold loopB
  cases b with
  | true => exact @decide_eq_true _ (Classical.propDecidable _) (h.1 rfl)
  | false => exact @decide_eq_false _ (Classical.propDecidable _) (fun e => by have := h.2 e; cases this)

set_option maxHeartbeats 4000000 in
set_option maxRecDepth 100000 in
theorem loop_calls (A : Nat → Prop) (g : Gd) (na oa : Option Addr) (nc oc : Nat) (w : World) (hnd : NdsR w A (.slice na g.nodes.length nc) g.nodes) (hnl : g.nodes.length ≤ 256) (hfl : ∀ x ∈ g.nodes, x.from_.length ≤ 1048576) (hE : ∀ x ∈ g.nodes, ∀ k ∈ x.from_, 0 ≤ k ∧ k < (g.nodes.length : Int)) :
    Calls Try.prog 17 #[gdV g.ins (.slice na g.nodes.length nc) (.slice oa g.outs.length oc)] w fun e w' => e = .returned (.bool (loopB g)) ∧ Hid (w.grownBy w' none) := by
  obtain ⟨N, hN⟩ : ∃ N, g.nodes.length = N := ⟨_, rfl⟩
  obtain ⟨M, hM⟩ : ∃ M, g.outs.length = M := ⟨_, rfl⟩
  obtain ⟨ins, hins⟩ : ∃ ins, g.ins = ins := ⟨_, rfl⟩
  have HEE : Hid (∀ i k, GOrd.Edge g i k → i < N ∧ k < N) := fun i k h => by
    unfold GOrd.Edge asks at h
    cases hx : g.nodes[i]? with
    | none => rw [hx] at h; cases h
    | some x =>
      rw [hx] at h
      dsimp only at h
      refine ⟨by rw [← hN]; exact (List.getElem?_eq_some_iff.1 hx).1, ?_⟩
      split at h
      · cases h
      · rw [List.mem_map] at h
        obtain ⟨z, hz, rfl⟩ := h
        have := hE x (List.mem_of_getElem? hx) z hz
        omega
  unfold gdV
  rw [hN] at hnd hnl hE ⊢
  rw [hM, hins]
  have HN := Lib.hid hN
  have HND := Lib.hid hnd
  have HFL := Lib.hid hfl
  have HR := Lib.hid hE
  have HGA : Hid (w.grownBy (w.alloc (.cells #[.int .i64 ins, .slice na N nc, .slice oa M oc] 25)) none) := grown_alloc (grown_refl _ _) _
  have HAB : Hid ((w.alloc (.cells #[.int .i64 ins, .slice na N nc, .slice oa M oc] 25)).heap[w.heap.size]? = some (.cells #[.int .i64 ins, .slice na N nc, .slice oa M oc] 25 (0, 0))) := heap_alloc_new _ _
  clear hnd hfl hN hM hins hE
  go_enter Try.func17, Try.ntmps17
  go_upto_region 1 with fail
  obtain ⟨wa, hwa⟩ : ∃ wa, w.alloc (.cells #[.int .i64 ins, .slice na N nc, .slice oa M oc] 25) = wa := ⟨_, rfl⟩
  obtain ⟨aB, haB⟩ : ∃ aB, w.heap.size = aB := ⟨_, rfl⟩
  rw [hwa] at HGA HAB
  rw [haB] at HAB
  simp only [hwa, haB]
  clear hwa haB
  have e1 := cell_of HAB.out 1
  obtain ⟨j0, hj, hz0, hz1, hz2⟩ := info_parts info45
  obtain ⟨j4, hj4, hz40, hz41, hz42⟩ := info_parts info4
  go_upto_region 2 with (first | (at_make; refine wpList_make_full _ rfl _ _ 87 rfl wa.heap.size 45 j0 (.slice none 0 0) 1 Try.underlying87 hj hz0 hz1 _ _ _ _ N rfl rfl rfl rfl (by rw [hz2]; omega) (by unfold maxLen; omega) (Nat.le_refl _) ?_; intro w3 hown3 hg3; have HOWN3 := Lib.hid hown3; have HG3 := Lib.hid hg3; clear hown3 hg3))
  have HM0 : Hid (Mat w3 wa.heap.size N [] []) := by
    refine ⟨?_, rfl, Nat.zero_le _, fun i b l hb => by simp at hb, fun l hl => by simp at hl, fun i j b hb => by simp at hb, fun b hb => by simp at hb⟩
    have h := HOWN3.out
    rw [show (madeCells (Value.slice none 0 0).cells (N * 1)).toList = List.replicate N (Value.slice none 0 0) from by rw [Nat.mul_one]; exact madeCells_one _ _] at h
    simpa using new_of_made h
  obtain ⟨rb, hrb⟩ : ∃ rb, wa.heap.size = rb := ⟨_, rfl⟩
  rw [hrb] at HM0
  have HRB : Hid (wa.heap.size = rb) := hrb
  simp only [hrb]
  clear hrb HOWN3
  replace e1 := grown_cell HG3.out e1 (by simp)
  go_wp2_with fail
  go_loopw [4, 5, 7, 19] (fun v4 v5 v7 v19 wr => ∃ (k : Nat) (bs : List Nat) (m : List (List Bool)), k ≤ N ∧ v19 = .int .i64 (k : Int) ∧ Hid (Mat wr rb N bs m) ∧ Hid (ES g N k none m) ∧ Hid (wa.grownBy wr none)) (fun _ _ _ v19 _ => N - (intOf v19).toNat)
  case atStart => exact ⟨0, [], [], Nat.zero_le _, rfl, HM0.out, ES.zero g N, HG3.out⟩
  case round =>
    obtain ⟨k, bs, m, hk, rfl, HMT, HES, HGR⟩ := hrel
    obtain ⟨wz, hwz⟩ : ∃ wz : World, wz = wr := ⟨_, rfl⟩
    subst hwz
    clear e1 HM0 HG3
    by_cases hkN : k = N
    · have h2 := hkN.symm
      subst h2
      clear hkN
      have HWS0 : Hid (WS g N 0 0 0 m) := HES.out.ws
      clear HES
      go_upto_region 14 with fail
      go_loopw [8, 9, 10, 51] (fun v8 v9 v10 v51 wr => ∃ (s : Nat) (m : List (List Bool)), s ≤ N ∧ v51 = .int .i64 (s : Int) ∧ Hid (Mat wr rb N bs m) ∧ Hid (WS g N s 0 0 m) ∧ Hid (wa.grownBy wr none)) (fun _ _ _ v51 _ => N - (intOf v51).toNat)
      case atStart => exact ⟨0, m, Nat.zero_le _, rfl, HMT.out, HWS0.out, HGR.out⟩
      case round =>
        clear HMT HWS0 HGR
        obtain ⟨s, m, hs, rfl, HMT, HWS, HGR⟩ := hrel
        obtain ⟨wy, hwy⟩ : ∃ wy : World, wy = wr := ⟨_, rfl⟩
        subst hwy
        by_cases hsN : s = N
        · subst hsN
          have HLP : Hid ((∃ i, i < s ∧ mget m i i = true) ↔ ¬ Acy g) := HWS.out.loop HEE.out
          go_upto_region 28 with fail
          go_loopw [11, 91] (fun v11 v91 wr => ∃ q : Nat, q ≤ s ∧ v91 = .int .i64 (q : Int) ∧ wy = wr ∧ Hid (∀ i, i < q → mget m i i = false)) (fun _ v91 _ => s - (intOf v91).toNat)
          case atStart => exact ⟨0, Nat.zero_le _, rfl, rfl, fun i hi => absurd hi (Nat.not_lt_zero _)⟩
          case round =>
            obtain ⟨q, hq, rfl, hwr, HF⟩ := hrel
            subst hwr
            by_cases hqs : q = s
            · have HEND : Hid (loopB g = false) := by
                unfold Hid
                apply loopB_iff
                rw [← HLP.out]
                constructor
                · intro e; cases e
                · rintro ⟨i, hi, he⟩
                  rw [HF.out i (by omega)] at he
                  cases he
              have h2 := hqs.symm
              subst h2
              clear hqs
              go_wp2_with fail
              go_ret
              exact ⟨by rw [HEND.out]; rfl, grown_trans HGA.out HGR.out⟩
            have hql : (q : Int) < (s : Int) := by omega
            have hql2 : q < s := by omega
            have hwq : IntKind.i64.wrap ((q : Int) + 1) = (q : Int) + 1 := IntWalk.i64_in _ (by omega)
            obtain ⟨b1, hb1, c1, u1, f1⟩ := HMT.out.at_ (i := q) (by rw [HWS.out.sq.len]; exact hql2)
            replace u1 := u1 q hql2
            clear f1 hb1
            cases hv : mget m q q with
            | true =>
              rw [hv] at u1
              have HEND : Hid (loopB g = true) := by
                unfold Hid
                apply loopB_iff
                rw [← HLP.out]
                exact ⟨fun _ => ⟨q, hql2, hv⟩, fun _ => rfl⟩
              clear hv
              go_wp2_with fail
              go_ret
              exact ⟨by rw [HEND.out]; rfl, grown_trans HGA.out HGR.out⟩
            | false =>
              rw [hv] at u1
              have HNX : Hid (∀ i, i < q + 1 → mget m i i = false) := fun i hi => by
                by_cases e : i = q
                · rw [e]; exact hv
                · exact HF.out i (by omega)
              clear hv
              go_wp2_with fail
              refine ⟨?_, by simp [intOf]; omega⟩
              first
                | exact ⟨q + 1, by omega, rfl, trivial, HNX.out⟩
                | (repeat apply Exists.intro
                   refine ⟨?_, rfl⟩
                   exact ⟨q + 1, by omega, rfl, trivial, HNX.out⟩)
        have hsl : (s : Int) < (N : Int) := by omega
        have hsl2 : s < N := by omega
        have hws : IntKind.i64.wrap ((s : Int) + 1) = (s : Int) + 1 := IntWalk.i64_in _ (by omega)
        go_upto_region 17 with fail
        go_loopw [9, 10, 56] (fun v9 v10 v56 wr => ∃ (i : Nat) (m : List (List Bool)), i ≤ N ∧ v56 = .int .i64 (i : Int) ∧ Hid (Mat wr rb N bs m) ∧ Hid (WS g N s i 0 m) ∧ Hid (wa.grownBy wr none)) (fun _ _ v56 _ => N - (intOf v56).toNat)
        case atStart => exact ⟨0, m, Nat.zero_le _, rfl, HMT.out, HWS.out, HGR.out⟩
        case round =>
          clear HMT HWS HGR
          obtain ⟨i, m, hi, rfl, HMT, HWS, HGR⟩ := hrel
          obtain ⟨wx, hwx⟩ : ∃ wx : World, wx = wr := ⟨_, rfl⟩
          subst hwx
          by_cases hiN : i = N
          · have h2 := hiN.symm
            have HW2 : Hid (WS g N (s + 1) 0 0 m) := by
              have h := HWS.out
              rw [hiN] at h
              exact h.stage
            subst h2
            clear hiN
            go_wp2_with fail
            refine ⟨?_, by simp [intOf]; omega⟩
            first
              | exact ⟨s + 1, m, by omega, rfl, HMT.out, HW2.out, HGR.out⟩
              | (repeat apply Exists.intro
                 refine ⟨?_, rfl⟩
                 exact ⟨s + 1, m, by omega, rfl, HMT.out, HW2.out, HGR.out⟩)
          have hil : (i : Int) < (N : Int) := by omega
          have hil2 : i < N := by omega
          have hwi : IntKind.i64.wrap ((i : Int) + 1) = (i : Int) + 1 := IntWalk.i64_in _ (by omega)
          go_upto_region 20 with fail
          go_loopw [10, 61] (fun v10 v61 wr => ∃ (q : Nat) (m : List (List Bool)), q ≤ N ∧ v61 = .int .i64 (q : Int) ∧ Hid (Mat wr rb N bs m) ∧ Hid (WS g N s i q m) ∧ Hid (wa.grownBy wr none)) (fun _ v61 _ => N - (intOf v61).toNat)
          case atStart => exact ⟨0, m, Nat.zero_le _, rfl, HMT.out, HWS.out, HGR.out⟩
          case round =>
            clear HMT HWS HGR
            obtain ⟨q, m, hq, rfl, HMT, HWS, HGR⟩ := hrel
            obtain ⟨wv, hwv⟩ : ∃ wv : World, wv = wr := ⟨_, rfl⟩
            subst hwv
            by_cases hqN : q = N
            · have h2 := hqN.symm
              have HW2 : Hid (WS g N s (i + 1) 0 m) := by
                have h := HWS.out
                rw [hqN] at h
                exact h.row (fun i k e => (HEE.out i k e).2)
              subst h2
              clear hqN
              go_wp2_with fail
              refine ⟨?_, by simp [intOf]; omega⟩
              first
                | exact ⟨i + 1, m, by omega, rfl, HMT.out, HW2.out, HGR.out⟩
                | (repeat apply Exists.intro
                   refine ⟨?_, rfl⟩
                   exact ⟨i + 1, m, by omega, rfl, HMT.out, HW2.out, HGR.out⟩)
            have hql : (q : Int) < (N : Int) := by omega
            have hql2 : q < N := by omega
            have hwq : IntKind.i64.wrap ((q : Int) + 1) = (q : Int) + 1 := IntWalk.i64_in _ (by omega)
            have HST := Lib.hid (HWS.out.step hil2 hql2 hsl2)
            obtain ⟨b1, hb1, c1, u1, f1⟩ := HMT.out.at_ (i := i) (by rw [HWS.out.sq.len]; exact hil2)
            obtain ⟨b2, hb2, c2, u2, f2⟩ := HMT.out.at_ (i := s) (by rw [HWS.out.sq.len]; exact hsl2)
            have u3 := u1 q hql2
            replace u1 := u1 s hsl2
            replace u2 := u2 q hql2
            replace f1 := f1 q
            have HB1 := Lib.hid hb1
            clear f2 hb2 hb1
            cases hv1 : mget m i s with
            | false =>
              rw [hv1] at u1 HST
              clear hv1
              go_wp2_with fail
              refine ⟨?_, by simp [intOf]; omega⟩
              first
                | exact ⟨q + 1, m, by omega, rfl, HMT.out, HST.out, HGR.out⟩
                | (repeat apply Exists.intro
                   refine ⟨?_, rfl⟩
                   exact ⟨q + 1, m, by omega, rfl, HMT.out, HST.out, HGR.out⟩)
            | true =>
              rw [hv1] at u1 HST
              clear hv1
              cases hv2 : mget m s q with
              | false =>
                rw [hv2] at u2 HST
                clear hv2
                go_wp2_with fail
                refine ⟨?_, by simp [intOf]; omega⟩
                first
                  | exact ⟨q + 1, m, by omega, rfl, HMT.out, HST.out, HGR.out⟩
                  | (repeat apply Exists.intro
                     refine ⟨?_, rfl⟩
                     exact ⟨q + 1, m, by omega, rfl, HMT.out, HST.out, HGR.out⟩)
              | true =>
                rw [hv2] at u2 HST
                clear hv2
                have HMN : Hid (Mat (wv.setCell ⟨b1, q, none⟩ (.bool true)) rb N bs (mset m i q)) := HMT.out.set HB1.out hql2
                have HGN : Hid (wa.grownBy (wv.setCell ⟨b1, q, none⟩ (.bool true)) none) := grown_set HGR.out (.inr (by have h := HMT.out.lt b1 (List.mem_of_getElem? HB1.out); have h2 := HRB.out; unfold Hid at h2; show wa.heap.size ≤ b1; omega)) _
                go_wp2_with fail
                refine ⟨?_, by simp [intOf]; omega⟩
                first
                  | exact ⟨q + 1, _, by omega, rfl, HMN.out, HST.out, HGN.out⟩
                  | (repeat apply Exists.intro
                     refine ⟨?_, rfl⟩
                     exact ⟨q + 1, _, by omega, rfl, HMN.out, HST.out, HGN.out⟩)
    have hkl : (k : Int) < (N : Int) := by omega
    have hkl2 : k < N := by omega
    have hwk : IntKind.i64.wrap ((k : Int) + 1) = (k : Int) + 1 := IntWalk.i64_in _ (by omega)
    obtain ⟨x, hx⟩ : ∃ x, g.nodes[k]? = some x := ⟨g.nodes[k]'(by rw [HN.out]; exact hkl2), List.getElem?_eq_getElem _⟩
    obtain ⟨b6, o6, fa, fc, rfl, hA6, hrg, _, hfs⟩ := nds_at HND.out hx
    have hfx := HFL.out x (List.mem_of_getElem? hx)
    have hrx := HR.out x (List.mem_of_getElem? hx)
    have hGW := grown_trans HGA.out HGR.out
    have HGW := Lib.hid hGW
    have HASK : Hid (asks g k = if x.kind = 6 then [] else x.from_.map Int.toNat) := by
      unfold Hid asks
      rw [hx]
    obtain ⟨kind, fr, n, xx, ⟨b0, b1, b2, a1, a2⟩, ⟨shape, step, gain, att, dec, rel, sus⟩⟩ := x
    dsimp only at hfs hfx hrx HASK
    obtain ⟨F, hF⟩ : ∃ F, fr.length = F := ⟨_, rfl⟩
    have HF := Lib.hid hF
    rw [hF] at hfs hfx hrg
    have d0 := grown_cell hGW (hrg 0 _ rfl) (by simp)
    rw [Nat.add_zero] at d0
    have d1 := grown_cell hGW (hrg 1 _ rfl) (by simp)
    have d2 := grown_cell hGW (hrg 2 _ rfl) (by simp)
    have d3 := grown_cell hGW (hrg 3 _ rfl) (by simp)
    have d4 := grown_cell hGW (hrg 4 _ rfl) (by simp)
    have d5 := grown_cell hGW (hrg 5 _ rfl) (by simp)
    have d6 := grown_cell hGW (hrg 6 _ rfl) (by simp)
    have d7 := grown_cell hGW (hrg 7 _ rfl) (by simp)
    have d8 := grown_cell hGW (hrg 8 _ rfl) (by simp)
    have d9 := grown_cell hGW (hrg 9 _ rfl) (by simp)
    have d10 := grown_cell hGW (hrg 10 _ rfl) (by simp)
    have d11 := grown_cell hGW (hrg 11 _ rfl) (by simp)
    have d12 := grown_cell hGW (hrg 12 _ rfl) (by simp)
    have d13 := grown_cell hGW (hrg 13 _ rfl) (by simp)
    have d14 := grown_cell hGW (hrg 14 _ rfl) (by simp)
    have d15 := grown_cell hGW (hrg 15 _ rfl) (by simp)
    have HFS := Lib.hid hfs
    have HRX := Lib.hid hrx
    clear hx hrg hfs hGW hF hrx
    have e1 := grown_cell HGR.out (cell_of HAB.out 1) (by simp)
    go_upto_region 5 with fail
    have hgz5 : wz.grownBy (wz.alloc (.cells #[.int .i64 kind, .slice fa F fc, .int .i64 n, .float .f64 xx, .float .f64 b0, .float .f64 b1, .float .f64 b2, .float .f64 a1, .float .f64 a2, .int .i64 shape, .int .u32 step, .float .f64 gain, .int .i64 att, .int .i64 dec, .int .i64 rel, .int .i64 sus] 53)) none := grown_alloc (grown_refl _ _) _
    have hdb5 := heap_alloc_new wz (.cells #[.int .i64 kind, .slice fa F fc, .int .i64 n, .float .f64 xx, .float .f64 b0, .float .f64 b1, .float .f64 b2, .float .f64 a1, .float .f64 a2, .int .i64 shape, .int .u32 step, .float .f64 gain, .int .i64 att, .int .i64 dec, .int .i64 rel, .int .i64 sus] 53)
    obtain ⟨w5, hw5⟩ : ∃ w5, wz.alloc (.cells #[.int .i64 kind, .slice fa F fc, .int .i64 n, .float .f64 xx, .float .f64 b0, .float .f64 b1, .float .f64 b2, .float .f64 a1, .float .f64 a2, .int .i64 shape, .int .u32 step, .float .f64 gain, .int .i64 att, .int .i64 dec, .int .i64 rel, .int .i64 sus] 53) = w5 := ⟨_, rfl⟩
    rw [hw5] at hgz5 hdb5
    obtain ⟨dB, hdB⟩ : ∃ dB, wz.heap.size = dB := ⟨_, rfl⟩
    rw [hdB] at hdb5
    simp only [hw5, hdB]
    have HDB5 := Lib.hid hdb5
    have HG5 := Lib.hid hgz5
    have HMT5 := Lib.hid (HMT.out.grown hgz5)
    replace e1 := grown_cell hgz5 e1 (by simp)
    have hlen : bs.length = k := by rw [HMT.out.len]; exact HES.out.len
    have HLEN := Lib.hid hlen
    have HDLT : Hid (rb < dB) := by
      have h := lt_of HMT.out.row
      unfold Hid
      omega
    clear hw5 hdB hdb5 hgz5 d0 d1 d2 d3 d4 d5 d6 d7 d8 d9 d10 d11 d12 d13 d14 d15 hlen
    go_upto_region 6 with (first | (at_make; refine wpList_make_full _ rfl _ _ 45 rfl w5.heap.size 4 j4 (.bool false) 1 Try.underlying45 hj4 hz40 hz41 _ _ _ _ N rfl rfl rfl rfl (by rw [hz42]; omega) (by unfold maxLen; omega) (Nat.le_refl _) ?_; intro w6 hown6 hg6; have HOWN6 := Lib.hid hown6; have HG6 := Lib.hid hg6; obtain ⟨z1, z2⟩ := (HMT5.out.grown hg6).new_ (by rw [HLEN.out]; exact hkl2); rw [HLEN.out] at z1 z2; clear hown6 hg6))
    have hnew : w6.heap[w5.heap.size]? = some (.cells (List.replicate N (.bool false)).toArray 4 (0, 0)) := by
      have h := HOWN6.out
      rw [show (madeCells (Value.bool false).cells (N * 1)).toList = List.replicate N (Value.bool false) from by rw [Nat.mul_one]; exact madeCells_one _ _] at h
      exact new_of_made h
    have hmt7 := HMT5.out.push HG6.out hnew (Nat.le_refl _) (by rw [HLEN.out]; exact hkl2)
    rw [HLEN.out] at hmt7
    have HES7 := Lib.hid HES.out.push
    obtain ⟨nb, hnb⟩ : ∃ nb, w5.heap.size = nb := ⟨_, rfl⟩
    rw [hnb] at hmt7
    unfold slV at hmt7
    have HDB6 := Lib.hid (row_kept HG6.out HDB5.out (by simp))
    have hg7 : wa.grownBy (w6.setCell ⟨rb, k, none⟩ (.slice (some ⟨nb, 0, none⟩) N N)) none := grown_set (grown_trans HGR.out (grown_trans HG5.out HG6.out)) (.inr (by have h2 := HRB.out; unfold Hid at h2; show wa.heap.size ≤ rb; omega)) _
    have hdb7 : (w6.setCell ⟨rb, k, none⟩ (.slice (some ⟨nb, 0, none⟩) N N)).heap[dB]? = some (.cells #[.int .i64 kind, .slice fa F fc, .int .i64 n, .float .f64 xx, .float .f64 b0, .float .f64 b1, .float .f64 b2, .float .f64 a1, .float .f64 a2, .int .i64 shape, .int .u32 step, .float .f64 gain, .int .i64 att, .int .i64 dec, .int .i64 rel, .int .i64 sus] 53 (0, 0)) := by
      rw [set_other (by have h := HDLT.out; unfold Hid at h; show dB ≠ rb; omega)]
      exact HDB6.out
    obtain ⟨w7, hw7⟩ : ∃ w7, w6.setCell ⟨rb, k, none⟩ (.slice (some ⟨nb, 0, none⟩) N N) = w7 := ⟨_, rfl⟩
    rw [hw7] at hmt7 hg7 hdb7
    have HMT7 := Lib.hid hmt7
    have HG7 := Lib.hid hg7
    have x0 := cell_of hdb7 0
    have x1 := cell_of hdb7 1
    simp only [hnb, hw7]
    clear hnew hmt7 hnb hg7 hdb7 hw7 HOWN6 HG6 HDB5 HG5 HMT5 HMT HES z1 z2 e1 HDB6 HDLT
    by_cases hk6 : kind = 6
    · subst hk6
      have HESN : Hid (ES g N (k + 1) none (m ++ [List.replicate N false])) := HES7.out.done (by rw [HASK.out]; simp)
      go_wp2_with fail
      refine ⟨?_, by simp [intOf]; omega⟩
      first
        | exact ⟨k + 1, _, _, by omega, rfl, HMT7.out, HESN.out, HG7.out⟩
        | (repeat apply Exists.intro
           refine ⟨?_, rfl⟩
           exact ⟨k + 1, _, _, by omega, rfl, HMT7.out, HESN.out, HG7.out⟩)
    have hk6b : (kind == 6) = false := by simpa using hk6
    have HASK2 : Hid (asks g k = fr.map Int.toNat) := by unfold Hid; rw [HASK.out, if_neg hk6]
    clear HASK
    go_upto_region 8 with fail
    obtain ⟨m7, hm7⟩ : ∃ m7, m ++ [List.replicate N false] = m7 := ⟨_, rfl⟩
    rw [hm7] at HMT7 HES7
    clear hm7 x0 x1
    go_loopw [7, 37] (fun v7 v37 wr => ∃ (q : Nat) (m : List (List Bool)), q ≤ F ∧ v37 = .int .i64 (q : Int) ∧ Hid (Mat wr rb N (bs ++ [nb]) m) ∧ Hid (ES g N k (some q) m) ∧ Hid (wa.grownBy wr none)) (fun _ v37 _ => F - (intOf v37).toNat)
    case atStart => exact ⟨0, m7, Nat.zero_le _, rfl, HMT7.out, HES7.out, HG7.out⟩
    case round =>
      clear HMT7 HES7 HG7
      obtain ⟨q, m, hq, rfl, HMT, HES, HG8⟩ := hrel
      obtain ⟨wx, hwx⟩ : ∃ wx : World, wx = wr := ⟨_, rfl⟩
      subst hwx
      by_cases hqF : q = F
      · have HESN : Hid (ES g N (k + 1) none m) := HES.out.done (by rw [HASK2.out, List.length_map, HF.out, hqF]; exact Nat.le_refl _)
        have h2 := hqF.symm
        subst h2
        clear hqF
        go_wp2_with fail
        refine ⟨?_, by simp [intOf]; omega⟩
        first
          | exact ⟨k + 1, _, _, by omega, rfl, HMT.out, HESN.out, HG8.out⟩
          | (repeat apply Exists.intro
             refine ⟨?_, rfl⟩
             exact ⟨k + 1, _, _, by omega, rfl, HMT.out, HESN.out, HG8.out⟩)
      have hql : (q : Int) < (F : Int) := by omega
      have hql2 : q < F := by omega
      have hwq : IntKind.i64.wrap ((q : Int) + 1) = (q : Int) + 1 := IntWalk.i64_in _ (by omega)
      obtain ⟨kz, hkz⟩ : ∃ kz, fr[q]? = some kz := ⟨fr[q]'(by rw [HF.out]; exact hql2), List.getElem?_eq_getElem _⟩
      have hzr := HRX.out kz (List.mem_of_getElem? hkz)
      obtain ⟨kn, rfl⟩ : ∃ kn : Nat, kz = (kn : Int) := Int.eq_ofNat_of_zero_le hzr.1
      have hzr1 := hzr.1
      have hzr2 := hzr.2
      have hkn : kn < N := by omega
      obtain ⟨b7, o7, rfl, hA7, hcell⟩ := sla_at HFS.out hkz
      have u1 := grown_cell HG8.out (grown_cell HGA.out (hcell 0 _ rfl) (by simp)) (by simp)
      rw [Nat.mul_one, Nat.add_zero] at u1
      have HES9 := Lib.hid (HES.out.set (j := kn) (by rw [HASK2.out, List.getElem?_map, hkz]; rfl) hkn)
      obtain ⟨b1, hb1, c1, u2, f1⟩ := HMT.out.at_ (i := k) (by have h : m.length = k + 1 := HES.out.len; omega)
      replace u2 := u2 kn hkn
      replace f1 := f1 kn
      have HMN : Hid (Mat (wx.setCell ⟨b1, kn, none⟩ (.bool true)) rb N (bs ++ [nb]) (mset m k kn)) := HMT.out.set hb1 hkn
      have HGN : Hid (wa.grownBy (wx.setCell ⟨b1, kn, none⟩ (.bool true)) none) := grown_set HG8.out (.inr (by have h := HMT.out.lt b1 (List.mem_of_getElem? hb1); have h2 := HRB.out; unfold Hid at h2; show wa.heap.size ≤ b1; omega)) _
      clear hcell hkz hb1 hzr
      go_wp2_with fail
      refine ⟨?_, by simp [intOf]; omega⟩
      first
        | exact ⟨q + 1, _, by omega, rfl, HMN.out, HES9.out, HGN.out⟩
        | (repeat apply Exists.intro
           refine ⟨?_, rfl⟩
           exact ⟨q + 1, _, by omega, rfl, HMN.out, HES9.out, HGN.out⟩)
end Go.Proofs.Ytdliilmnfbgplaa.GRLoop
