/- Pieces, however cut: the law's walk. -/
import Derived.Test.YtdliilmnfbgplaaGM8
import Derived.Test.YtdliilmnfbgplaaGM9
import Derived.Test.YtdliilmnfbgplaaGRestsL
namespace Go.Proofs.Ytdliilmnfbgplaa.GBlocksL
open Go Go.RowKit Go.Proofs.Ytdliilmnfbgplaa.GPiece Go.Proofs.Ytdliilmnfbgplaa.Fl Go.Proofs.Ytdliilmnfbgplaa.Fw Go.Proofs.Ytdliilmnfbgplaa.GRd Go.Proofs.Ytdliilmnfbgplaa.GCells Go.Proofs.Ytdliilmnfbgplaa.GStep Go.Proofs.Ytdliilmnfbgplaa.GMod Go.Proofs.Ytdliilmnfbgplaa.GOrd Go.Proofs.Ytdliilmnfbgplaa.GMem Go.Proofs.Ytdliilmnfbgplaa.GNode Go.Proofs.Ytdliilmnfbgplaa.GPMem Go.Proofs.Ytdliilmnfbgplaa.GPState Go.Proofs.Ytdliilmnfbgplaa.GOuts Go.Proofs.Ytdliilmnfbgplaa.GSub Go.Proofs.Ytdliilmnfbgplaa.GRun Go.Proofs.Ytdliilmnfbgplaa.GMade Go.Proofs.Ytdliilmnfbgplaa.GSort Go.Proofs.Ytdliilmnfbgplaa.GNewS Go.Proofs.Ytdliilmnfbgplaa.GNew Go.Proofs.Ytdliilmnfbgplaa.GSoundS Go.Proofs.Ytdliilmnfbgplaa.GSound Go.Proofs.Ytdliilmnfbgplaa.GAlive Go.Proofs.Ytdliilmnfbgplaa.GClone Go.Proofs.Ytdliilmnfbgplaa.GRestsP Go.Proofs.Ytdliilmnfbgplaa.GRestsL Go.Proofs.Ytdliilmnfbgplaa.GSol Go.Proofs.Ytdliilmnfbgplaa.GSplit Go.Proofs.Ytdliilmnfbgplaa.GSteps Go.Proofs.Ytdliilmnfbgplaa.GBlocksP Go.Proofs.Ytdliilmnfbgplaa.GStart Go.Proofs.Ytdliilmnfbgplaa.Hp Go.Proofs.Ytdliilmnfbgplaa.Rd Go.Proofs.Ytdliilmnfbgplaa.Opn
set_option linter.unusedVariables false
set_option linter.unusedSimpArgs false

/-- The search has one end. -/
theorem vis_det {g : Gd} {s s1 : Sr} {a : Nat ⊕ List Nat} {b : Bool} (h : Vis g s a b s1) : ∀ {b' : Bool} {s2 : Sr}, Vis g s a b' s2 → b = b' ∧ s1 = s2 := by
  induction h with
  | seen h1 =>
    intro b' s2 h'
    cases h' with
    | seen h2 => exact ⟨rfl, rfl⟩
    | ok h2 _ _ => omega
    | bad h2 _ _ => omega
  | ok h1 h2 h3 ih =>
    intro b' s2 h'
    cases h' with
    | seen h4 => omega
    | ok h4 h5 h6 =>
      obtain ⟨_, e⟩ := ih h6
      subst e
      exact ⟨rfl, rfl⟩
    | bad h4 h5 h6 => exact absurd (ih h6).1 (by decide)
  | bad h1 h2 h3 ih =>
    intro b' s2 h'
    cases h' with
    | seen h4 => omega
    | ok h4 h5 h6 => exact absurd (ih h6).1 (by decide)
    | bad h4 h5 h6 => exact ⟨rfl, (ih h6).2⟩
  | nil =>
    intro b' s2 h'
    cases h'
    exact ⟨rfl, rfl⟩
  | cons h1 h2 ih1 ih2 =>
    intro b' s2 h'
    cases h' with
    | cons h3 h4 =>
      obtain ⟨_, e⟩ := ih1 h3
      subst e
      exact ih2 h4
    | stop h3 => exact absurd (ih1 h3).1 (by decide)
  | stop h1 ih =>
    intro b' s2 h'
    cases h' with
    | cons h3 h4 => exact absurd (ih h3).1 (by decide)
    | stop h3 => exact ⟨rfl, (ih h3).2⟩

theorem cfl_cap {w : World} {A : Nat → Prop} {ao : Option Addr} {n c1 : Nat} {l : List Nat} (h : CFl w A (.slice ao n c1) l) (c2 : Nat) : CFl w A (.slice ao n c2) l := by
  obtain ⟨ys, h1, h2⟩ := h
  refine ⟨ys, ?_, h2⟩
  rcases h1 with ⟨b, off, cap, hA, e, hr⟩ | ⟨ao', cap, e, hn⟩
  · simp only [Value.slice.injEq] at e
    obtain ⟨rfl, rfl, _⟩ := e
    exact .inl ⟨b, off, c2, hA, rfl, hr⟩
  · simp only [Value.slice.injEq] at e
    obtain ⟨rfl, rfl, _⟩ := e
    exact .inr ⟨ao, c2, rfl, hn⟩

theorem info34 : (Try.prog.info? 34).map (fun i => (i.zero, i.size, i.bytes)) = some (some (.agg #[.slice none 0 0, .int .i64 0, .bool false]), 3, 40) := by kernel_rfl

theorem cutP_ins (ins : List (List Nat)) (n : Nat) : ∀ (cs : List Int) (a : Nat) (p : Pc), p ∈ cutP ins n cs a → p.ins.length = ins.length
  | [], a, p, h => by simp [cutP] at h
  | c :: cs, a, p, h => by
    simp only [cutP, List.mem_cons] at h
    rcases h with rfl | h
    · simp
    · exact cutP_ins ins n cs _ p h

theorem sound_len (g : Gd) (order : List Nat) (chunk : Nat) : ∀ (ps : List Pc) (sts : List NS), (soundG g order chunk sts ps).length = ps.length
  | [], sts => rfl
  | p :: ps, sts => by simp only [soundG, List.length_cons]; rw [sound_len g order chunk ps]

/-! ### the rows that go out, one behind the other -/
theorem outs0 {w : World} {ub M : Nat} (h : w.heap[ub]? = some (.cells (List.replicate M (Value.slice none 0 0)).toArray 38 (0, 0))) : OutsR w ub ub (List.replicate M (.slice none 0 0)) (List.replicate M []) := by
  refine ⟨h, Nat.le_refl _, by simp, fun i v l hv hl => ?_, fun i v hv => ?_, fun i j v u b hv _ hb => ?_⟩
  · rw [List.getElem?_replicate] at hv hl
    split at hv
    · rename_i hi
      rw [if_pos hi] at hl
      injection hv with hv
      injection hl with hl
      subst hv hl
      exact ⟨[], ⟨rfl, .inl ⟨rfl, rfl⟩⟩, rfl⟩
    · cases hv
  · rw [List.getElem?_replicate] at hv
    split at hv
    · injection hv with hv
      subst hv
      simp [Value.ownBlock]
    · cases hv
  · rw [List.getElem?_replicate] at hv
    split at hv
    · injection hv with hv
      subst hv
      simp [Value.ownBlock] at hb
    · cases hv
theorem zip_range (p outs : List (List Nat)) (h : p.length = outs.length) : List.zipWith (fun o (z : Int) => o ++ p.getD z.toNat []) outs ((List.range outs.length).map fun k : Nat => (k : Int)) = List.zipWith (· ++ ·) outs p := by
  apply List.ext_getElem?
  intro i
  rw [List.getElem?_zipWith, List.getElem?_zipWith, List.getElem?_map]
  cases ho : outs[i]? with
  | none => rfl
  | some o =>
    have hi := (List.getElem?_eq_some_iff.1 ho).1
    rw [List.getElem?_range hi, List.getElem?_eq_getElem (by omega : i < p.length)]
    simp only [Option.map_some, Int.toNat_natCast]
    rw [List.getD_eq_getElem?_getD, List.getElem?_eq_getElem (by omega : i < p.length)]
    rfl
theorem cat_len (M : Nat) : ∀ (rs : List (List (List Nat) × Int)) (acc : List (List Nat)), acc.length = M → (∀ r ∈ rs, r.1.length = M) → (catN rs acc).length = M
  | [], acc, h, _ => h
  | r :: rs, acc, h, hr => by
    refine cat_len M rs _ ?_ (fun r hm => hr r (List.mem_cons_of_mem _ hm))
    rw [List.length_zipWith, h, hr r (List.mem_cons_self ..), Nat.min_self]
theorem cat_mono (M : Nat) : ∀ (rs : List (List (List Nat) × Int)) (acc : List (List Nat)) (k : Nat), acc.length = M → (∀ r ∈ rs, r.1.length = M) → (acc.getD k []).length ≤ ((catN rs acc).getD k []).length
  | [], acc, k, h, _ => Nat.le_refl _
  | r :: rs, acc, k, h, hr => by
    have hrl := hr r (List.mem_cons_self ..)
    refine Nat.le_trans ?_ (cat_mono M rs (List.zipWith (· ++ ·) acc r.1) k (by rw [List.length_zipWith, h, hrl, Nat.min_self]) (fun r hm => hr r (List.mem_cons_of_mem _ hm)))
    rw [zip_getD acc r.1 k (by omega), List.length_append]
    omega
theorem cat_split (M : Nat) (rs : List (List (List Nat) × Int)) (acc : List (List Nat)) (i : Nat) : catN rs acc = catN (rs.drop i) (catN (rs.take i) acc) := by
  unfold catN
  rw [← List.foldl_append, List.take_append_drop]
theorem cat_next {rs : List (List (List Nat) × Int)} {acc : List (List Nat)} {i : Nat} {r : List (List Nat) × Int} (h : rs[i]? = some r) : catN (rs.take (i + 1)) acc = List.zipWith (· ++ ·) (catN (rs.take i) acc) r.1 := by
  unfold catN
  rw [take_next h, List.foldl_append]
  rfl

/-- Pieces as they are laid out. -/
structure PcS (B : Nat) (wr : World) (pa : Option Addr) (pc k : Nat) (ps : List (Pc × Value)) (xs : List Pc) (Q : Nat → Prop) : Prop where
  own : wr.ownsRow B 34 3 (.slice pa k pc) k (flC pcC ps)
  pl : ps.length = k
  pm : ps.map Prod.fst = xs
  rd : ∀ p ∈ ps, InsR wr Q p.2 p.1.ins
  q : ∀ b, Q b → b < wr.heap.size ∧ (Value.slice pa k pc).ownBlock ≠ some b
section
variable {B : Nat} {wr w2 : World} {pa : Option Addr} {pc k : Nat} {ps : List (Pc × Value)} {xs : List Pc} {Q : Nat → Prop}
theorem PcS.grown (h : PcS B wr pa pc k ps xs Q) (hg : wr.grownBy w2 none) : PcS B w2 pa pc k ps xs Q :=
  ⟨own_kept h.own hg, h.pl, h.pm, fun p hp => InsR.grown (h.rd p hp) hg, fun b hb => ⟨Nat.lt_of_lt_of_le (h.q b hb).1 hg.size, (h.q b hb).2⟩⟩
theorem PcS.push (h : PcS B wr pa pc k ps xs Q) {x : Pc} {v : Value} {pa2 : Option Addr} {pc2 : Nat} {Qn : Nat → Prop} (ho : w2.ownsRow B 34 3 (.slice pa2 (k + 1) pc2) (k + 1) (flC pcC ps ++ pcC (x, v))) (hg : wr.grownBy w2 (Value.slice pa k pc).ownBlock)
    (hat : (Value.slice pa2 (k + 1) pc2).ownBlock = (Value.slice pa k pc).ownBlock ∨ (Value.slice pa2 (k + 1) pc2).ownBlock = some wr.heap.size) (hr : InsR wr Qn v x.ins) (hq : ∀ b, Qn b → b < wr.heap.size ∧ (Value.slice pa k pc).ownBlock ≠ some b) :
    PcS B w2 pa2 pc2 (k + 1) (ps ++ [(x, v)]) (xs ++ [x]) (fun b => Q b ∨ Qn b) := by
  have hf : Fr (fun b => (Value.slice pa k pc).ownBlock = some b) wr w2 := .of hg (fun i e => e)
  have hnew : ∀ b, (b < wr.heap.size ∧ (Value.slice pa k pc).ownBlock ≠ some b) → b < w2.heap.size ∧ (Value.slice pa2 (k + 1) pc2).ownBlock ≠ some b := fun b ⟨h1, h2⟩ => ⟨Nat.lt_of_lt_of_le h1 hf.size, fun e => by
    rcases hat with e2 | e2
    · rw [e2] at e
      exact h2 e
    · rw [e2] at e
      injection e with e
      omega⟩
  refine ⟨?_, by rw [List.length_append, h.pl]; rfl, by rw [List.map_append, h.pm]; rfl, fun p hp => ?_, fun b hb => ?_⟩
  · rw [flC_append]
    have e : flC pcC [(x, v)] = pcC (x, v) := by simp [flC]
    rw [e]
    exact ho
  · rw [List.mem_append, List.mem_singleton] at hp
    rcases hp with hp | rfl
    · exact (InsR.fr (h.rd p hp) hf (fun b hb e => (h.q b hb).2 e)).mono (fun b => .inl)
    · exact (InsR.fr hr hf (fun b hb e => (hq b hb).2 e)).mono (fun b => .inr)
  · rcases hb with hb | hb
    · exact hnew b (h.q b hb)
    · exact hnew b (hq b hb)
theorem PcS.reads (h : PcS B wr pa pc k ps xs Q) {w3 : World} (hg : wr.grownBy w3 none) (A : Nat → Prop) (hA : ∀ b, b < wr.heap.size → A b) : PcsR w3 A (.slice pa k pc) xs :=
  ⟨ps, h.pm, (sla_of_own pcC_len (xs := ps) (by rw [h.pl]; exact own_kept h.own hg) _ (fun b hb => hA b (own_base h.own hb).2)), fun p hp => (InsR.grown (h.rd p hp) hg).mono (fun b hb => hA b (h.q b hb).1)⟩
end

/-- The rows of a piece as they are gathered. -/
structure RwS (B : Nat) (wr : World) (pB : Nat) (c q : Nat) (ya : Option Addr) (yc : Nat) (us : List Value) (ls' : List (List Nat)) (D : Nat) : Prop where
  row : wr.heap[pB]? = some (.cells #[.slice ya q yc, .int .i64 (c : Int), .bool false] 34 (0, 0))
  own : wr.ownsRow B 38 1 (.slice ya q yc) q (flC vC us)
  len : us.length = q
  ll : ls'.length = q
  cap : q ≤ yc
  val : ∀ (i : Nat) (u : Value) (l : List Nat), us[i]? = some u → ls'[i]? = some l → CFl wr (fun b => b < D) u l ∧ ∃ ao cp, u = .slice ao l.length cp ∧ l.length ≤ cp
  pb : pB < B
  d : D ≤ pB
section
variable {B D : Nat} {wr w2 : World} {pB c q : Nat} {ya : Option Addr} {yc : Nat} {us : List Value} {ls' : List (List Nat)}
theorem RwS.grown (h : RwS B wr pB c q ya yc us ls' D) (hg : wr.grownBy w2 none) : RwS B w2 pB c q ya yc us ls' D :=
  ⟨row_kept hg h.row (by simp), own_kept h.own hg, h.len, h.ll, h.cap, fun i u l hu hl => ⟨(h.val i u l hu hl).1.grown hg, (h.val i u l hu hl).2⟩, h.pb, h.d⟩
theorem RwS.push (h : RwS B wr pB c q ya yc us ls' D) {u : Value} {l : List Nat} {g9 cap : Nat} (ho : w2.ownsRow B 38 1 (.slice (some ⟨g9, 0, none⟩) (q + 1) cap) (q + 1) (flC vC us ++ [u])) (hg : wr.grownBy w2 (Value.slice ya q yc).ownBlock)
    (hu : CFl wr (fun b => b < D) u l) (hv : ∃ ao cp, u = .slice ao l.length cp ∧ l.length ≤ cp) : RwS B (w2.setCell ⟨pB, 0, none⟩ (.slice (some ⟨g9, 0, none⟩) (q + 1) cap)) pB c (q + 1) (some ⟨g9, 0, none⟩) cap (us ++ [u]) (ls' ++ [l]) D := by
  have hd := h.d
  have hpb := h.pb
  have hownB : ∀ b, (Value.slice ya q yc).ownBlock = some b → B ≤ b := fun b hb => (own_base h.own hb).1
  have hrow := row_kept hg h.row (fun e => by have := hownB _ e.symm; omega)
  have hf1 : Fr (fun b => (Value.slice ya q yc).ownBlock = some b) wr w2 := .of hg (fun i e => e)
  have hf2 : Fr (fun b => b = pB) w2 (w2.setCell ⟨pB, 0, none⟩ (.slice (some ⟨g9, 0, none⟩) (q + 1) cap)) := fr_set (X := fun b => b = pB) (p := ⟨pB, 0, none⟩) (Fr.refl _ _) (.inl rfl) _
  have hcap : q + 1 ≤ cap := by
    obtain ⟨_, _, _, _, _, h3, _⟩ := own_row ho (by omega)
    exact h3
  refine ⟨by rw [set_self hrow]; rfl, ?_, by rw [List.length_append, h.len]; rfl, by rw [List.length_append, h.ll]; rfl, hcap, fun i v l' hv' hl' => ?_, hpb, hd⟩
  · rw [flC_append]
    have e : flC vC [u] = [u] := rfl
    rw [e]
    exact own_fr ho hf2 (fun b hb e => by
      have := (own_base ho hb).1
      omega)
  · rcases Nat.lt_or_ge i us.length with hi | hi
    · rw [List.getElem?_append_left hi] at hv'
      rw [List.getElem?_append_left (by rw [h.ll, ← h.len]; exact hi)] at hl'
      obtain ⟨h1, h2⟩ := h.val i v l' hv' hl'
      exact ⟨(h1.fr hf1 (fun b hb e => by have := hownB b e; omega)).fr hf2 (fun b hb e => by omega), h2⟩
    · rw [List.getElem?_append_right hi] at hv'
      rw [List.getElem?_append_right (by rw [h.ll, ← h.len]; exact hi)] at hl'
      have hi2 : i - us.length = 0 := by have := (List.getElem?_eq_some_iff.1 hv').1; simpa using this
      rw [hi2] at hv'
      rw [show i - ls'.length = 0 from by rw [h.ll, ← h.len]; exact hi2] at hl'
      simp at hv' hl'
      subst hv' hl'
      exact ⟨(hu.fr hf1 (fun b hb e => by have := hownB b e; omega)).fr hf2 (fun b hb e => by omega), hv⟩
theorem RwS.reads (h : RwS B wr pB c q ya yc us ls' D) : InsR wr (fun b => b < D ∨ (Value.slice ya q yc).ownBlock = some b) (.slice ya q yc) ls' :=
  ⟨us, by rw [h.len, h.ll], sla_of_own vC_len (xs := us) (by rw [h.len]; exact h.own) _ (fun b hb => .inr hb), fun i u l hu hl => ⟨(h.val i u l hu hl).1.mono (fun b => .inl), (h.val i u l hu hl).2⟩⟩
end

set_option maxHeartbeats 16000000 in
set_option maxRecDepth 100000 in
theorem law (g : Gd) (na oa : Option Addr) (nc oc : Nat) (ia : Option Addr) (ic : Nat) (ls : List (List Nat)) (ca : Option Addr) (cc : Nat) (cs : List Int) (W : World) (hnd : NdsR W (fun b => b < W.heap.size) (.slice na g.nodes.length nc) g.nodes) (hou : SlA 1 iC W (fun b => b < W.heap.size) (.slice oa g.outs.length oc) g.outs)
    (hfl : ∀ x ∈ g.nodes, x.from_.length ≤ 1048576 ∧ x.pt.step < 4294967296) (hin : InsR W (fun b => b < W.heap.size) (.slice ia ls.length ic) ls) (hil : ls.length ≤ 1048576) (hcs : SlA 1 iC W (fun b => b < W.heap.size) (.slice ca cs.length cc) cs) (hcl : cs.length ≤ 1048576) (hcr : ∀ n ∈ cs, -9223372036854775808 ≤ n ∧ n ≤ 9223372036854775807) :
    Calls Try.prog 4 #[gdV g.ins (.slice na g.nodes.length nc) (.slice oa g.outs.length oc), .slice ia ls.length ic, .slice ca cs.length cc] W fun e w' => e = .returned (.bool true) ∧ Hid (W.grownBy w' none) := by
  obtain ⟨K, hK⟩ : ∃ K, ls.length = K := ⟨_, rfl⟩
  obtain ⟨C, hC⟩ : ∃ C, cs.length = C := ⟨_, rfl⟩
  have HND := Lib.hid hnd
  have HOU := Lib.hid hou
  have HFL := Lib.hid hfl
  have HCR := Lib.hid hcr
  rw [hK] at hin hil ⊢
  rw [hC] at hcs hcl ⊢
  have HK := Lib.hid hK
  have HC := Lib.hid hC
  have HIN := Lib.hid hin
  have HCS := Lib.hid hcs
  have AC := fun w => Lib.hid (alive_calls w)
  obtain ⟨N, hN⟩ : ∃ N, g.nodes.length = N := ⟨_, rfl⟩
  obtain ⟨M, hM⟩ : ∃ M, g.outs.length = M := ⟨_, rfl⟩
  obtain ⟨ins, hins⟩ : ∃ ins, g.ins = ins := ⟨_, rfl⟩
  unfold gdV
  rw [hN, hM, hins]
  have HN := Lib.hid hN
  have HM := Lib.hid hM
  have HI := Lib.hid hins
  have HGA : Hid (W.grownBy (W.alloc (.cells #[.int .i64 ins, .slice na N nc, .slice oa M oc] 25)) none) := grown_alloc (grown_refl _ _) _
  have HAB : Hid ((W.alloc (.cells #[.int .i64 ins, .slice na N nc, .slice oa M oc] 25)).heap[W.heap.size]? = some (.cells #[.int .i64 ins, .slice na N nc, .slice oa M oc] 25 (0, 0))) := heap_alloc_new _ _
  clear hnd hou hfl hin hcs hcr hK hC hN hM hins
  go_enter Try.func4, Try.ntmps4
  go_upto_region 3 with (go_at_call 12; refine ((AC _).out).mono ?_; rintro ez w2 ⟨rfl, hg2⟩)
  have HG2 : Hid (W.grownBy w2 none) := grown_trans HGA.out hg2.out
  have HAB2 := Lib.hid (row_kept hg2.out HAB.out (by simp))
  clear hg2 HAB HGA AC
  go_wp2_with fail
  go_loopw [7, 30] (fun v7 v30 wr => ∃ k nk : Nat, k ≤ K ∧ v30 = .int .i64 (k : Int) ∧ v7 = .int .i64 (nk : Int) ∧ w2 = wr ∧ nk ≤ 5000 ∧ Hid (∀ l ∈ ls.take k, l.length = nk)) (fun _ v30 _ => K - (intOf v30).toNat)
  case atStart => exact ⟨0, 0, Nat.zero_le _, rfl, rfl, rfl, by omega, fun l hl => by simp at hl⟩
  case round =>
    obtain ⟨k, nk, hk, rfl, rfl, hwr, hnk, HLN⟩ := hrel
    subst hwr
    by_cases hkK : k = K
    · have h9 := hkK.symm
      subst h9
      clear hkK
      have HLA : Hid (∀ l ∈ ls, l.length = nk) := fun l hl => HLN.out l (by rw [List.take_of_length_le (Nat.le_of_eq HK.out)]; exact hl)
      obtain ⟨n, hn⟩ : ∃ n, (if K = 0 then 100 else nk) = n := ⟨_, rfl⟩
      have HNN : Hid (n ≤ 5000 ∧ ∀ l ∈ ls, l.length = n) := by
        refine ⟨by rw [← hn]; split <;> omega, fun l hl => ?_⟩
        rw [← hn, if_neg (fun e => by
          have := HK.out
          rw [e] at this
          have := List.eq_nil_of_length_eq_zero this
          rw [this] at hl
          simp at hl)]
        exact HLA.out l hl
      go_upto_if 53 with fail
      go_cut [7] from 51 to 53 (fun v7 wx => v7 = .int .i64 (n : Int) ∧ w2 = wx)
      case first =>
        by_cases hK0 : K = 0
        · have hKz : (K : Int) = 0 := by omega
          have hnv : (n : Int) = 100 := by rw [← hn, if_pos hK0]; rfl
          subst hK0
          clear hn hKz
          go_wp2_with fail
          go_meet
          exact ⟨by rw [hnv], rfl⟩
        · have hKz : ¬ (K : Int) = 0 := by omega
          have hnv : n = nk := by rw [← hn, if_neg hK0]
          clear hn
          subst hnv
          have hKb : ((K : Int) == 0) = false := by simpa using hK0
          go_wp2_with fail
          go_meet
          exact ⟨rfl, rfl⟩
      obtain ⟨rfl, hwc⟩ := hcut
      subst hwc
      clear HLN HLA hn hnk hk
      have hn5 : n ≤ 5000 := HNN.out.1
      obtain ⟨j0, hj, hz0, hz1, hz2⟩ := info_parts info3
      have HEMP : Hid ((w2.alloc (.cells #[] 3)).ownsRow w2.heap.size 3 1 (.slice (some ⟨w2.heap.size, 0, none⟩) 0 0) 0 ([] : List Value)) := ⟨rfl, .inr ⟨w2.heap.size, 0, #[], rfl, Nat.le_refl _, heap_alloc_new _ _, Nat.le_refl _, Nat.zero_le _, rfl, rfl⟩⟩
      have HGE : Hid (w2.grownBy (w2.alloc (.cells #[] 3)) none) := grown_alloc (grown_refl _ _) _
      have HGA5 : ∀ (w : World) o, Hid (w.grownBy (w.alloc o) none) := fun w o => grown_alloc (grown_refl _ _) _
      go_upto_region 16 with (first
        | (at_builtin; refine wpList_append_in _ rfl _ _ 23 rfl w2.heap.size 3 j0 (.int .i64 0) 1 8 Try.underlying23 hj hz0 hz1 hz2 rfl (by decide) (.slice (some ⟨w2.heap.size, 0, none⟩) 0 0) 0 [] rfl HEMP.out ca C cc (flC iC cs) rfl (by rw [flC_len iC_len, HC.out]) (news_sl iC_len (by decide) (SlA.grown (HCS.out.grown HG2.out) HGE.out)) (one_i cs) (by unfold maxLen; omega) (by omega) (by simp) ?_; intro a1 c1 w5 h5 hg5 hb5; have HO5 := Lib.hid h5; have HG5 := Lib.hid hg5; clear h5 hg5 hb5)
        | (at_builtin; refine wpList_append_own_at _ rfl _ _ 23 rfl w2.heap.size 3 j0 (.int .i64 0) 1 8 Try.underlying23 hj hz0 hz1 hz2 rfl (by decide) (.slice a1 C c1) C (flC iC cs) rfl (own_kept (by have h := HO5.out; rw [Nat.zero_add, List.nil_append] at h; exact h) (HGA5 _ _).out) ⟨w5.heap.size, 0, none⟩ 1 1 [.int .i64 (n : Int)] rfl rfl (fun j u' hu => by rw [show ((⟨w5.heap.size, 0, none⟩ : Addr).add j) = ⟨w5.heap.size, 0 + j, none⟩ from Addr.add_lit _ _ _, Nat.zero_add, cell_of (heap_alloc_new _ _), ← Array.getElem?_toList]; exact hu) (by simp [Value.oneCell']) (by unfold maxLen; omega) (by omega) (by have h1 := HGE.out.size; have h2 := HG5.out.size; have h3 := (HGA5 w5 (.cells #[.int .i64 (n : Int)] 3)).out.size; omega) ?_; intro v6 w6 ho6 hg6 _ hb6; obtain ⟨da, dc, rfl⟩ := own_slice ho6; have HO6 := Lib.hid ho6; have HG6 := Lib.hid hg6; clear ho6 hg6 hb6))
      have HDS : Hid (SlA 1 iC w6 (fun b => b < w6.heap.size) (.slice da (C + 1) dc) (cs ++ [(n : Int)])) := by
        have h : w6.ownsRow w2.heap.size 3 1 (.slice da (C + 1) dc) (cs ++ [(n : Int)]).length (flC iC (cs ++ [(n : Int)])) := by
          rw [List.length_append, HC.out, flC_append]
          exact HO6.out
        exact sla_of_own iC_len h _ (fun b hb => (own_base h hb).2)
      have HG26 : Hid (w2.grownBy w6 none) := by
        have h5 := HO5.out
        rw [Nat.zero_add, List.nil_append] at h5
        exact grown_own (grown_trans (grown_own HGE.out HEMP.out (Nat.le_refl _) HG5.out) (HGA5 _ _).out) (own_kept h5 (HGA5 _ _).out) (Nat.le_refl _) HG6.out
      have HGW6 : Hid (W.grownBy w6 none) := grown_trans HG2.out HG26.out
      have HAB6 := Lib.hid (row_kept HG26.out HAB2.out (by simp))
      have HCN : Hid ((cs ++ [(n : Int)]).length = C + 1) := by unfold Hid; rw [List.length_append, HC.out]; rfl
      obtain ⟨ds, hds⟩ : ∃ ds, cs ++ [(n : Int)] = ds := ⟨_, rfl⟩
      rw [hds] at HDS HCN
      have HDSE := Lib.hid hds
      have HPS0 : Hid (PcS w6.heap.size w6 none 0 0 [] [] (fun _ => False)) := ⟨World.ownsRow_nil _ _ _ _, rfl, rfl, fun p hp => by simp at hp, fun b hb => hb.elim⟩
      clear hds HO5 HG5 HO6 HG6 HEMP HGE HG26 HG2 HAB2 HCS
      go_loopw [10, 11, 13, 61] (fun v10 v11 v13 v61 wr => ∃ (k a : Nat) (pa : Option Addr) (pc : Nat) (ps : List (Pc × Value)) (Q : Nat → Prop), k ≤ C + 1 ∧ v61 = .int .i64 (k : Int) ∧ v11 = .int .i64 (a : Int) ∧ v10 = .slice pa k pc ∧ a ≤ n ∧ Hid (a = cutE n (ds.take k) 0) ∧ Hid (PcS w6.heap.size wr pa pc k ps (cutP ls n (ds.take k) 0) Q) ∧ Hid (w6.grownBy wr none)) (fun _ _ _ v61 _ => C + 1 - (intOf v61).toNat)
      case atStart => exact ⟨0, 0, none, 0, [], _, Nat.zero_le _, rfl, rfl, rfl, Nat.zero_le _, rfl, HPS0.out, grown_refl _ _⟩
      case round =>
        obtain ⟨k, a, pa, pc, ps, Q, hk, rfl, rfl, rfl, han, HAE, HPS, HGR⟩ := hrel
        obtain ⟨wz, hwz⟩ : ∃ wz : World, wz = wr := ⟨_, rfl⟩
        subst hwz
        by_cases hkC : k = C + 1
        · subst hkC
          have HPX : Hid (ds.take (C + 1) = ds) := by unfold Hid; exact List.take_of_length_le (Nat.le_of_eq HCN.out)
          rw [HPX.out] at HPS
          obtain ⟨PX, hPX⟩ : ∃ PX, cutP ls n ds 0 = PX := ⟨_, rfl⟩
          rw [hPX] at HPS
          have HPXL : Hid (PX.length = C + 1) := by unfold Hid; rw [← hPX, cutP_len, HCN.out]
          have HPXI : Hid (∀ p ∈ PX, p.ins.length ≤ 1048576) := fun p hp => by
            rw [← hPX] at hp
            rw [cutP_ins ls n ds 0 p hp, HK.out]
            exact hil
          have HPXE := Lib.hid hPX
          have HGWZ : Hid (W.grownBy wz none) := grown_trans HGW6.out HGR.out
          have HABZ := Lib.hid (row_kept HGR.out HAB6.out (by simp))
          have hsw := HGWZ.out.size
          have SC1 := sound_calls (fun b => b < wz.heap.size) g na oa nc oc pa pc PX wz ((HND.out.fr (X := fun _ => False) (.none HGWZ.out) (fun _ _ => id)).mono (fun b hb => by omega)) ((HOU.out.grown HGWZ.out).mono (fun b hb => by omega)) HFL.out
            (by rw [HPXL.out]; exact HPS.out.reads (grown_refl _ _) _ (fun b hb => hb)) (fun b hb => hb) HPXI.out (by rw [HPXL.out]; omega)
          have SC2 := fun (w8 : World) (hg : W.grownBy w8 none) => sound_calls (fun b => b < w8.heap.size + 1) g na oa nc oc (some ⟨w8.heap.size, 0, none⟩) 1 [⟨ls, (n : Int), false⟩] (w8.alloc (.cells #[.slice ia K ic, .int .i64 (n : Int), .bool false] 34))
            ((HND.out.fr (X := fun _ => False) (.none (grown_trans hg (HGA5 _ _).out)) (fun _ _ => id)).mono (fun b hb => by have := hg.size; omega)) ((HOU.out.grown (grown_trans hg (HGA5 _ _).out)).mono (fun b hb => by have := hg.size; omega)) HFL.out
            ⟨[(⟨ls, (n : Int), false⟩, .slice ia K ic)], rfl, sla_whole pcC_len (xs := [(⟨ls, (n : Int), false⟩, .slice ia K ic)]) (heap_alloc_new _ _) (by omega), fun p hp => by
              simp only [List.mem_cons, List.not_mem_nil, or_false] at hp
              subst hp
              exact (InsR.grown HIN.out (grown_trans hg (HGA5 _ _).out)).mono (fun b hb => by have := hg.size; omega)⟩
            (fun b hb => by simp; omega) (fun p hp => by
              simp only [List.mem_cons, List.not_mem_nil, or_false] at hp
              subst hp
              dsimp only
              rw [HK.out]
              exact hil) (by show (1 : Nat) ≤ _; decide)
          unfold gdV at SC1 SC2
          rw [HN.out, HM.out, HI.out, HPXL.out] at SC1
          rw [HN.out, HM.out, HI.out] at SC2
          have H1C := Lib.hid SC1
          have H2C := Lib.hid SC2
          have c0 := cell_of HABZ.out 0
          have c1 := cell_of HABZ.out 1
          have c2 := cell_of HABZ.out 2
          clear SC1 SC2 hPX hsw
          go_upto_region 30 with (go_at_call 7; refine (H1C.out).mono ?_; rintro ez w8 ⟨hg8, H1⟩; have e0 := grown_cell hg8.out c0 (by simp); have e1 := grown_cell hg8.out c1 (by simp); have e2 := grown_cell hg8.out c2 (by simp); have HH1 := Lib.hid H1; rcases H1 with ⟨hp, rfl⟩ | ⟨hp, s, hv, rfl⟩ | ⟨hp, s, ov, hv, rfl, hhd⟩)
          all_goals have SC := Lib.hid (H2C.out w8 (grown_trans HGWZ.out hg8.out))
          · have HPN := Lib.hid hp
            have hEb : (preE g == preE g) = true := by simp
            have hEn : (preE g == 0) = false := by simpa using hp
            go_upto_region 31 with (go_at_call 7; refine (SC.out).mono ?_; rintro ez w9 ⟨hg9, ⟨hp2, rfl⟩ | ⟨hp2, s2, hv2, rfl⟩ | ⟨hp2, s2, ov2, hv2, rfl, hhd2⟩⟩)
            · clear hp hp2
              go_wp2_with fail
              go_ret
              exact ⟨by simp, grown_trans HGWZ.out (grown_trans hg8.out (grown_trans (HGA5 _ _).out hg9.out))⟩
            · exact absurd hp2 HPN.out
            · exact absurd hp2 HPN.out
          · go_upto_region 31 with (go_at_call 7; refine (SC.out).mono ?_; rintro ez w9 ⟨hg9, ⟨hp2, rfl⟩ | ⟨hp2, s2, hv2, rfl⟩ | ⟨hp2, s2, ov2, hv2, rfl, hhd2⟩⟩)
            · exact absurd hp hp2
            · go_wp2_with fail
              go_ret
              exact ⟨by rfl, grown_trans HGWZ.out (grown_trans hg8.out (grown_trans (HGA5 _ _).out hg9.out))⟩
            · exact absurd (vis_det hv.out hv2.out).1 (by decide)
          go_upto_region 31 with (go_at_call 7; refine (SC.out).mono ?_; rintro ez w9 ⟨hg9, ⟨hp2, rfl⟩ | ⟨hp2, s2, hv2, rfl⟩ | ⟨hp2, s2, ov2, hv2, rfl, hhd2⟩⟩)
          · exact absurd hp hp2
          · exact absurd (vis_det hv.out hv2.out).1 (by decide)
          obtain ⟨_, es⟩ := vis_det hv.out hv2.out
          subst es
          obtain ⟨hok, hch⟩ := start_ok hp (fun x hx => (HFL.out x hx).1) hv.out
          have hbl := blocks hch HNN.out.2 (by omega) hok cs
          rw [HDSE.out, HPXE.out] at hbl
          have hle := runG_le g s.order (chunkK g.nodes) (g.nodes.map GMod.start) ls (n : Int)
          obtain ⟨RS, hRS⟩ : ∃ RS, soundG g s.order (chunkK g.nodes) (g.nodes.map GMod.start) PX = RS := ⟨_, rfl⟩
          have hRSL : RS.length = C + 1 := by rw [← hRS, sound_len, HPXL.out]
          have HGT : Hid (w8.grownBy w9 none) := grown_trans (HGA5 _ _).out hg9.out
          have h1 := HdsR.grown hhd.out HGT.out
          have h2 := hhd2.out
          have e2 : soundG g s.order (chunkK g.nodes) (g.nodes.map GMod.start) [⟨ls, (n : Int), false⟩] = [(runG g s.order (chunkK g.nodes) (g.nodes.map GMod.start) ls (n : Int)).1] := by simp [soundG]
          rw [e2] at h2
          rw [hRS] at hbl h1
          have HGF : Hid (W.grownBy w9 none) := grown_trans HGWZ.out (grown_trans hg8.out HGT.out)
          have HS89 : Hid (w8.heap.size ≤ w9.heap.size) := HGT.out.size
          have hM256 : M ≤ 256 := by rw [← HM.out]; exact (pre_ok hp).2.1
          have HAB9 := Lib.hid (row_kept HGT.out (row_kept hg8.out HABZ.out (by simp)) (by simp))
          obtain ⟨ao, c, rfl⟩ := hds_open h1
          obtain ⟨bo, c3, rfl⟩ := hds_open h2
          obtain ⟨r0, hr0⟩ : ∃ r0, RS[0]? = some r0 := ⟨RS[0]'(by omega), List.getElem?_eq_getElem _⟩
          obtain ⟨b1, o1, oa1, oc1, rfl, d0, d1, _⟩ := hds_at h1 hr0
          obtain ⟨b2, o2, oa2, oc2, rfl, f0, f1, hcl2⟩ := hds_at h2 (i := 0) rfl
          rw [hRSL] at h1 ⊢
          simp only [List.length_cons, List.length_nil, Nat.zero_mul, Nat.add_zero, Nat.zero_add] at d0 d1 f0 f1 ⊢
          have H1R := Lib.hid h1
          clear h2 hhd hhd2 e0 e1 e2 hg8 hg9 HGT SC H1C H2C hok hch HH1 hp hp2 hv hv2 hRS
          rcases hbl with ⟨hil', hall, o, hro, hol, hcat⟩ | ⟨hil', ⟨rs, hrs⟩, hrb⟩
          · have HALL : Hid (∀ r ∈ RS, r.2 = 0 ∧ r.1.length = M) := fun r hr => ⟨(hall r hr).1, by rw [(hall r hr).2, HM.out]⟩
            rw [hro] at f0 f1 hcl2
            rw [hro] at hle
            dsimp only at f0 f1 hcl2 hle
            have hoM : o.length = M := by rw [hol, HM.out]
            rw [hoM] at f0 hcl2
            rw [HM.out] at hcat
            have HCAT := Lib.hid hcat
            have HOM := Lib.hid hoM
            have HLE : Hid (∀ k, (o.getD k []).length ≤ 5000) := fun k => by
              have h := getD_le hle.1 k
              rw [Int.toNat_natCast] at h
              omega
            have HCL2 := Lib.hid hcl2
            have q2 := cell_of HAB9.out 2
            obtain ⟨j8, hj8, hy0, hy1, hy2⟩ := info_parts info38
            obtain ⟨i6, hi6, hw0, hw1, hw2⟩ := info_parts info46
            clear hall hro hle hoM hcl2 hcat hil' hol hr0 d0 d1
            go_upto_region 38 with (at_make; refine wpList_make_full _ rfl _ _ 32 rfl w9.heap.size 38 j8 (.slice none 0 0) 1 Try.underlying32 hj8 hy0 hy1 _ _ _ _ M rfl rfl rfl rfl (by rw [hy2]; omega) (by unfold maxLen; omega) (Nat.le_refl _) ?_; intro wk hown3 hg3)
            have HOU0 : Hid (OutsR wk w9.heap.size w9.heap.size (List.replicate M (.slice none 0 0)) (List.replicate M [])) := by
              rw [show (madeCells (Value.slice none 0 0).cells (M * 1)).toList = List.replicate M (Value.slice none 0 0) from by rw [Nat.mul_one]; exact madeCells_one _ _] at hown3
              exact outs0 (new_of_made hown3)
            have HGK := Lib.hid hg3
            obtain ⟨ub, hub⟩ : ∃ ub, w9.heap.size = ub := ⟨_, rfl⟩
            rw [hub] at HOU0
            have HUB := Lib.hid hub
            simp only [hub]
            clear hown3 hg3 hub q2
            go_wp2_with fail
            go_loopw [24, 166] (fun v24 v166 wr => ∃ (i : Nat) (vs : List Value), i ≤ C + 1 ∧ v166 = .int .i64 (i : Int) ∧ Hid (OutsR wr ub ub vs (catN (RS.take i) (List.replicate M []))) ∧ Hid (w9.grownBy wr none)) (fun _ v166 _ => C + 1 - (intOf v166).toNat)
            case atStart => exact ⟨0, _, Nat.zero_le _, rfl, HOU0.out, HGK.out⟩
            case round =>
              obtain ⟨i, vs, hi, rfl, HOU, HGI⟩ := hrel
              obtain ⟨wi, hwi⟩ : ∃ wi : World, wi = wr := ⟨_, rfl⟩
              subst hwi
              by_cases hiC : i = C + 1
              · subst hiC
                have hOF := HOU.out
                rw [List.take_of_length_le (by omega), HCAT.out] at hOF
                have HOF := Lib.hid hOF
                have f0' := grown_cell HGI.out f0 (by simp)
                have HCI := Lib.hid (HCL2.out.grown HGI.out)
                have HGE9 : Hid (W.grownBy wi none) := grown_trans HGF.out HGI.out
                clear hOF f1
                go_wp2_with fail
                go_loopw [25, 211] (fun v25 v211 wr => ∃ q m2 : Nat, q ≤ M ∧ v211 = .int .i64 (q : Int) ∧ wr = wi.drewN m2) (fun _ v211 _ => M - (intOf v211).toNat)
                case atStart => exact ⟨0, 0, Nat.zero_le _, rfl, rfl⟩
                case round =>
                  obtain ⟨q, m2, hq, rfl, rfl⟩ := hrel
                  obtain ⟨wq, hwq⟩ : ∃ wq, wi.drewN m2 = wq := ⟨_, rfl⟩
                  have HWQ := Lib.hid hwq
                  have HGQ : Hid (wi.grownBy wq none) := by unfold Hid; rw [← hwq]; exact grown_drewN (grown_refl _ _) m2
                  simp only [hwq]
                  clear hwq
                  by_cases hqO : q = M
                  · subst hqO
                    go_wp2_with fail
                    go_ret
                    exact ⟨rfl, grown_trans HGE9.out HGQ.out⟩
                  have hql : (q : Int) < (M : Int) := by omega
                  have hql2 : q < M := by omega
                  have hwq1 : IntKind.i64.wrap ((q : Int) + 1) = (q : Int) + 1 := IntWalk.i64_in _ (by omega)
                  obtain ⟨l, hl⟩ : ∃ l, o[q]? = some l := ⟨o[q]'(by rw [HOM.out]; exact hql2), List.getElem?_eq_getElem _⟩
                  have hOQ := HOF.out.grown HGQ.out
                  obtain ⟨v3, hv3⟩ : ∃ v3, vs[q]? = some v3 := ⟨vs[q]'(by rw [hOQ.len]; exact (List.getElem?_eq_some_iff.1 hl).1), List.getElem?_eq_getElem _⟩
                  obtain ⟨ys3, hown3, hmap3⟩ := hOQ.val q v3 l hv3 hl
                  have hys3 : ys3.length = l.length := by rw [← hmap3, List.length_map]
                  rw [hys3] at hown3
                  obtain ⟨a3, c3v, rfl⟩ := own_slice hown3
                  have hc3 : CFl wq AnyB (.slice a3 l.length c3v) l := ⟨ys3, sla_of_own fC_len (xs := ys3) (by rw [hys3]; exact hown3) _ (fun _ _ => trivial), hmap3⟩
                  have hu3 : wq.cell? ⟨ub, q, none⟩ = some (.slice a3 l.length c3v) := by rw [cell_of hOQ.cell]; simpa using hv3
                  obtain ⟨b6, o6, ra2, rc2, rfl, _, e2, f2⟩ := cll_at (HCI.out.grown HGQ.out) hl
                  have hl5 : l.length ≤ 5000 := by
                    have h := HLE.out q
                    rw [List.getD_eq_getElem?_getD, hl] at h
                    exact h
                  obtain ⟨LL, hLL⟩ : ∃ LL, l.length = LL := ⟨_, rfl⟩
                  have LK : Hid (∀ k : Nat, Calls Try.prog 11 #[.slice a3 LL c3v, .slice ra2 LL rc2] (wq.drewN k) fun e w' => e = .returned (.bool true) ∧ ∃ m, w' = (wq.drewN k).drewN m) := fun k => by
                    have h := like_same _ _ a3 ra2 c3v rc2 l (wq.drewN k) (by omega) (hc3.grown (grown_drewN (grown_refl _ _) k)) (f2.grown (grown_drewN (grown_refl _ _) k))
                    rw [hLL] at h
                    exact h
                  rw [hLL] at e2 hu3
                  have g0 := grown_cell HGQ.out f0' (by simp)
                  clear hl hv3 hown3 hmap3 hys3 hc3 f2 hLL hl5 hOQ
                  go_upto_region 54 with fail
                  go_quiet ((go_at_call 11; exact Calls.quiet_of (LK.out _)))
                  go_wp2_with fail
                  refine ⟨?_, by simp [intOf]; omega⟩
                  first
                    | exact ⟨q + 1, _, by omega, rfl, by rw [← HWQ.out, World.drewN_drewN]⟩
                    | (repeat apply Exists.intro
                       refine ⟨?_, rfl⟩
                       exact ⟨q + 1, _, by omega, rfl, by rw [← HWQ.out, World.drewN_drewN]⟩)
              have hil9 : (i : Int) < ((C : Int) + 1) := by omega
              have hil8 : i < C + 1 := by omega
              have hwi1 : IntKind.i64.wrap ((i : Int) + 1) = (i : Int) + 1 := IntWalk.i64_in _ (by omega)
              obtain ⟨r, hr⟩ : ∃ r, RS[i]? = some r := ⟨RS[i]'(by omega), List.getElem?_eq_getElem _⟩
              obtain ⟨hr2, hrM⟩ := HALL.out r (List.mem_of_getElem? hr)
              obtain ⟨b5, o5, oa5, oc5, hb5, g0, g1, hcl5⟩ := hds_at (HdsR.grown H1R.out HGI.out) hr
              simp only [Option.some.injEq, Addr.mk.injEq, and_true] at hb5
              obtain ⟨rfl, rfl⟩ := hb5
              rw [hr2] at g1
              rw [hrM] at g0 hcl5
              have HR := Lib.hid hr
              have HRM := Lib.hid hrM
              clear hr hr2 hrM
              go_upto_region 41 with fail
              have hxrow := heap_alloc_new wi (.cells #[.slice oa5 M oc5, .int .i64 0] 37)
              have hgj : wi.grownBy (wi.alloc (.cells #[.slice oa5 M oc5, .int .i64 0] 37)) none := grown_alloc (grown_refl _ _) _
              obtain ⟨wj, hwj⟩ : ∃ wj, wi.alloc (.cells #[.slice oa5 M oc5, .int .i64 0] 37) = wj := ⟨_, rfl⟩
              rw [hwj] at hxrow hgj
              obtain ⟨xB, hxB⟩ : ∃ xB, wi.heap.size = xB := ⟨_, rfl⟩
              rw [hxB] at hxrow
              have hubx : ub < xB := by rw [← hxB]; exact lt_of HOU.out.cell
              have HXR := Lib.hid hxrow
              have HOUJ := Lib.hid (HOU.out.grown hgj)
              have HBX : Hid (∀ (i : Nat) (v : Value) (b : Nat), vs[i]? = some v → v.ownBlock = some b → b ≠ xB) := fun j v b hv hb => by
                obtain ⟨l, hl⟩ : ∃ l, (catN (RS.take i) (List.replicate M []))[j]? = some l := ⟨(catN (RS.take i) (List.replicate M []))[j]'(by rw [← HOU.out.len]; exact (List.getElem?_eq_some_iff.1 hv).1), List.getElem?_eq_getElem _⟩
                obtain ⟨ys, h1, _⟩ := HOU.out.val j v l hv hl
                have := (own_base h1 hb).2
                omega
              have HG9J : Hid (w9.grownBy wj none) := grown_trans HGI.out hgj
              have HCL5 := Lib.hid (hcl5.grown hgj)
              obtain ⟨prev, hprev⟩ : ∃ prev, catN (RS.take i) (List.replicate M []) = prev := ⟨_, rfl⟩
              have hpl : prev.length = M := by rw [← hprev]; exact cat_len M _ _ (by simp) (fun r' hr' => (HALL.out r' (List.mem_of_mem_take hr')).2)
              rw [hprev] at HOUJ
              have HPREV := Lib.hid hprev
              have HPL := Lib.hid hpl
              have HTOT : Hid (∀ q, (prev.getD q []).length + (r.1.getD q []).length ≤ 5000) := fun q => by
                have h1 := cat_mono M (RS.drop (i + 1)) (catN (RS.take (i + 1)) (List.replicate M [])) q (cat_len M _ _ (by simp) (fun r' hr' => (HALL.out r' (List.mem_of_mem_take hr')).2)) (fun r' hr' => (HALL.out r' (List.mem_of_mem_drop hr')).2)
                rw [← cat_split M, HCAT.out, cat_next HR.out, hprev, zip_getD prev r.1 q (by rw [hpl, HRM.out]), List.length_append] at h1
                have h2 := HLE.out q
                omega
              have HNXI : Hid (List.zipWith (fun o (z : Int) => o ++ r.1.getD z.toNat []) prev ((List.range M).map fun k : Nat => (k : Int)) = catN (RS.take (i + 1)) (List.replicate M [])) := by
                unfold Hid
                rw [cat_next HR.out, hprev, ← hpl, zip_range r.1 prev (by rw [HRM.out, hpl])]
              obtain ⟨RG, hRG⟩ : ∃ RG : List Int, (List.range M).map (fun k : Nat => (k : Int)) = RG := ⟨_, rfl⟩
              rw [hRG] at HNXI
              have HRGL : Hid (RG.length = M) := by unfold Hid; rw [← hRG]; simp
              have HRGA : Hid (∀ q, q < M → RG[q]? = some (q : Int)) := fun q hq => by rw [← hRG, List.getElem?_map, List.getElem?_range hq]; rfl
              have x0 := cell_of HXR.out 0
              have x1 := cell_of HXR.out 1
              simp only [hwj, hxB]
              clear hxrow hgj hwj hxB hcl5 g0 g1 hprev hpl hRG
              go_wp2_with fail
              go_loopw [24, 183] (fun v24 v183 wr => ∃ (q : Nat) (vs2 : List Value), q ≤ M ∧ v183 = .int .i64 (q : Int) ∧ Hid (OutsR wr ub ub vs2 (outsK r.1 RG prev q)) ∧ Hid (∀ (i : Nat) (v : Value) (b : Nat), vs2[i]? = some v → v.ownBlock = some b → b ≠ xB) ∧ Hid (wr.heap[xB]? = some (.cells #[.slice oa5 M oc5, .int .i64 0] 37 (0, 0))) ∧ Hid (w9.grownBy wr none) ∧ Hid (CLl wr (fun b => b < ub) (.slice oa5 M oc5) r.1)) (fun _ v183 _ => M - (intOf v183).toNat)
              case atStart => exact ⟨0, vs, Nat.zero_le _, rfl, by unfold Hid; rw [outsK_zero]; exact HOUJ.out, HBX.out, HXR.out, HG9J.out, HCL5.out.mono (fun b hb => by have h1 := HS89.out; have h2 := HUB.out; unfold Hid at h1 h2; have h3 := hb.2; omega)⟩
              case round =>
                obtain ⟨q, vs2, hq, rfl, HO3, HB3, HX3R, HG3, HC3⟩ := hrel
                obtain ⟨wv, hwv⟩ : ∃ wv : World, wv = wr := ⟨_, rfl⟩
                subst hwv
                clear x0 x1
                by_cases hqM : q = M
                · subst hqM
                  have HOF : Hid (OutsR wv ub ub vs2 (catN (RS.take (i + 1)) (List.replicate q []))) := by
                    have h := HO3.out
                    rw [outsK_full _ _ _ HPL.out HRGL.out, HNXI.out] at h
                    exact h
                  go_wp2_with fail
                  refine ⟨?_, by simp [intOf]; omega⟩
                  first
                    | exact ⟨i + 1, vs2, by omega, rfl, HOF.out, HG3.out⟩
                    | (repeat apply Exists.intro
                       refine ⟨?_, rfl⟩
                       exact ⟨i + 1, vs2, by omega, rfl, HOF.out, HG3.out⟩)
                have hqi : (q : Int) < (M : Int) := by omega
                have hqi2 : q < M := by omega
                have hwq1 : IntKind.i64.wrap ((q : Int) + 1) = (q : Int) + 1 := IntWalk.i64_in _ (by omega)
                obtain ⟨lk, hlk⟩ : ∃ lk, prev[q]? = some lk := ⟨prev[q]'(by rw [HPL.out]; exact hqi2), List.getElem?_eq_getElem _⟩
                obtain ⟨hok1, hok2⟩ := outsK_next (p := r.1) (by rw [HPL.out, HRGL.out]) hlk (HRGA.out q hqi2)
                rw [Int.toNat_natCast] at hok2
                obtain ⟨l6, hl6⟩ : ∃ l6, r.1[q]? = some l6 := ⟨r.1[q]'(by rw [HRM.out]; exact hqi2), List.getElem?_eq_getElem _⟩
                have hg6 : r.1.getD q [] = l6 := by rw [List.getD_eq_getElem?_getD, hl6]; rfl
                have hgk : prev.getD q [] = lk := by rw [List.getD_eq_getElem?_getD, hlk]; rfl
                rw [hg6] at hok2
                have htot := HTOT.out q
                rw [hg6, hgk] at htot
                obtain ⟨b7, o7, ro, rc6, rfl, hb7, e7, hc6⟩ := cll_at HC3.out hl6
                obtain ⟨ys6, hs6, hm6⟩ := hc6
                have hys6 : ys6.length = l6.length := by rw [← hm6, List.length_map]
                have hus : q < vs2.length := by rw [HO3.out.len]; exact (List.getElem?_eq_some_iff.1 hok1).1
                obtain ⟨v3, hv3⟩ : ∃ v3, vs2[q]? = some v3 := ⟨vs2[q]'hus, List.getElem?_eq_getElem _⟩
                obtain ⟨ys3, hown3, hmap3⟩ := HO3.out.val q v3 lk hv3 hok1
                have hys3 : ys3.length = lk.length := by rw [← hmap3, List.length_map]
                obtain ⟨m3, hm3⟩ : ∃ m3, lk.length = m3 := ⟨_, rfl⟩
                obtain ⟨m6, hm6l⟩ : ∃ m6, l6.length = m6 := ⟨_, rfl⟩
                rw [hm3] at hys3 htot
                rw [hm6l] at hys6 htot e7 hs6
                rw [hys3] at hown3
                obtain ⟨a3, c3v, rfl⟩ := own_slice hown3
                have hu3 : wv.cell? ⟨ub, q, none⟩ = some (.slice a3 m3 c3v) := by rw [cell_of HO3.out.cell]; simpa using hv3
                have hne3 := HO3.out.own q _ hv3
                have HOWN3 := Lib.hid hown3
                have HNE3 := Lib.hid hne3
                have HV3 := Lib.hid hv3
                have HOK1 := Lib.hid hok1
                have HOK2 := Lib.hid hok2
                have HMAP3 := Lib.hid hmap3
                have HYS3 := Lib.hid hys3
                have HYS6 := Lib.hid hys6
                have HM6 := Lib.hid hm6
                have HS6 := Lib.hid hs6
                have HUSL := Lib.hid hus
                have hx0 := cell_of HX3R.out 0
                have e7' : wv.cell? ⟨b7, o7 + q, none⟩ = some (.slice ro m6 rc6) := e7
                obtain ⟨X3, hX3⟩ : ∃ X3 : Nat → Prop, (fun b => b = ub ∨ (Value.slice a3 m3 c3v).ownBlock = some b) = X3 := ⟨_, rfl⟩
                have HX3 : Hid (∀ b, X3 b ↔ (b = ub ∨ (Value.slice a3 m3 c3v).ownBlock = some b)) := fun b => by rw [← hX3]
                have HXB : Hid (∀ b, X3 b → ub ≤ b) := fun b hb => by
                  rcases (HX3.out b).1 hb with e | e
                  · omega
                  · exact (own_base HOWN3.out e).1
                have hxx : ¬ X3 xB := fun e => by
                  rcases (HX3.out xB).1 e with e | e
                  · omega
                  · exact HB3.out q _ xB HV3.out e rfl
                have hbx : ¬ X3 b7 := fun e => by have h := HXB.out b7 e; omega
                clear hlk hok1 hok2 hl6 hg6 hgk hm6 hs6 hys6 hus hv3 hown3 hmap3 hne3 hys3 hm3 hm6l hX3 e7
                have hne := LaterX.nonempty X3 wv
                have k1 : ∀ n2 : LaterX X3 wv, n2.w.cell? ⟨xB, 0, none⟩ = some (.slice (some ⟨b7, o7, none⟩) M oc5) := LaterX.cell hx0 hxx
                have k2 : ∀ n2 : LaterX X3 wv, n2.w.cell? ⟨b7, o7 + q, none⟩ = some (.slice ro m6 rc6) := LaterX.cell e7' hbx
                go_upto_region 46 with fail
                refine Mixed.wp_region_mixed (lateX X3 wv) (fun k => k == 5 || k == 11 || k == 13) (by kernel_rfl) (by kernel_rfl) ⟨⟨wv.drew, fr_drewN (Fr.refl _ _) 1⟩, rfl⟩ ?_
                unfold lateX
                refine Mixed.wpM_quiet rfl rfl rfl ?_; intro Kx hKx; go_big_quiet_op; go_big_quiet_on
                refine Mixed.wpM_quiet rfl rfl rfl ?_; intro Kx hKx; go_big_quiet_op; go_big_quiet_on
                refine Mixed.wpM_quiet rfl rfl rfl ?_; intro Kx hKx; go_big_quiet_op; go_big_quiet_on
                refine Mixed.wpM_quiet rfl rfl rfl ?_; intro Kx hKx; go_big_quiet_op; go_big_quiet_on
                refine Mixed.wpM_quiet rfl rfl rfl ?_; intro Kx hKx; go_big_quiet_op; go_big_quiet_on
                refine Mixed.wpM_make rfl rfl (.slice a3 m3 c3v) wv.drew (by go_simp) ⟨⟨wv.drew, fr_drewN (Fr.refl _ _) 1⟩, rfl⟩ ?_
                go_simp
                refine Mixed.wpM_quiet rfl rfl rfl ?_; intro Kx hKx; go_big_quiet_op; go_big_quiet_on
                refine Mixed.wpM_quiet rfl rfl rfl ?_; intro Kx hKx; go_big_quiet_op; go_big_quiet_on
                refine Mixed.wpM_quiet rfl rfl rfl ?_; intro Kx hKx; go_big_quiet_op; go_big_quiet_on
                refine Mixed.wpM_quiet rfl rfl rfl ?_; intro Kx hKx; go_big_quiet_op; go_big_quiet_on
                refine Mixed.wpM_quiet rfl rfl rfl ?_; intro Kx hKx; go_big_quiet_op; go_big_quiet_on
                refine wpM_append_in rfl rfl _ _ 38 rfl ub 46 i6 (.float .f64 0) 1 8 Try.underlying38 hi6 hw0 hw1 hw2 rfl (by decide) (.slice a3 m3 c3v) m3 (flC fC ys3) rfl (own_kept HOWN3.out (grown_drew (grown_refl _ _))) ro m6 rc6 (flC fC ys6) rfl (by rw [flC_len fC_len, HYS6.out]) (news_sl fC_len (by decide) (SlA.grown HS6.out (grown_drew (grown_refl _ _)))) (fun u hu => by
                  rw [flC_f, List.mem_map] at hu
                  obtain ⟨_, _, rfl⟩ := hu
                  rfl) (by unfold maxLen; omega) (by omega) (by have h := lt_of HO3.out.cell; have h2 : wv.drew.heap.size = wv.heap.size := rfl; omega) ?_
                intro a7 c7 w7 ho7 hg7 hb7a
                have hg7' : Fr X3 wv w7 := (Fr.none (grown_drew (grown_refl _ _))).trans (.of hg7 (fun i e => (HX3.out i).2 (.inr e)))
                refine ⟨⟨⟨w7, hg7'⟩, rfl⟩, ?_⟩
                go_simp
                refine Mixed.wpM_quiet rfl rfl rfl ?_; intro Kx hKx; go_big_quiet_op; go_big_quiet_on
                have hub7 : w7.heap[ub]? = some (.cells vs2.toArray 38 (0, 0)) := row_kept hg7 (show wv.drew.heap[ub]? = _ from HO3.out.cell) (fun e => HNE3.out e.symm)
                have hpc : w7.cell? ⟨ub, q, none⟩ = some (.slice a3 m3 c3v) := by rw [cell_of hub7]; simpa using HV3.out
                have hpf := free_of hub7 q
                refine wpM_store rfl rfl (w7.setCell ⟨ub, q, none⟩ (.slice a7 (m3 + m6) c7)) (by go_simp) ⟨⟨_, fr_set (p := ⟨ub, q, none⟩) hg7' (.inl ((HX3.out ub).2 (.inl rfl))) _⟩, rfl⟩ ?_
                refine Mixed.wpM_nil ?_
                intro nx hnx
                dsimp only [Act.put]
                clear nx hnx k1 k2 hne hpc hpf
                have hsd : wv.drew.heap.size = wv.heap.size := rfl
                have hne7 : ∀ b, (Value.slice a7 (m3 + m6) c7).ownBlock = some b → b ≠ ub := fun b hb e => by
                  subst e
                  rcases hb7a with h | h
                  · exact HNE3.out (by rw [← h]; exact hb)
                  · rw [hb] at h
                    injection h with h
                    have := lt_of HO3.out.cell
                    omega
                have HFX : Hid (Fr X3 wv (w7.setCell ⟨ub, q, none⟩ (.slice a7 (m3 + m6) c7))) := fr_set (p := ⟨ub, q, none⟩) hg7' (.inl ((HX3.out ub).2 (.inl rfl))) _
                have HO4 : Hid (OutsR (w7.setCell ⟨ub, q, none⟩ (.slice a7 (m3 + m6) c7)) ub ub (vs2.set q (.slice a7 (m3 + m6) c7)) (outsK r.1 RG prev (q + 1))) := by
                  unfold Hid
                  rw [HOK2.out]
                  refine HO3.out.next (zs := ys3 ++ ys6) HV3.out HOK1.out (HFX.out.mono (fun b hb => (HX3.out b).1 hb)) (set_self hub7 _) ?_ (by rw [List.map_append, HMAP3.out, HM6.out]) (hb7a.imp id (fun h b hb => by
                    rw [h] at hb
                    injection hb with hb
                    omega))
                  rw [List.length_append, HYS3.out, HYS6.out, flC_append]
                  exact own_fr ho7 (X := fun b => b = ub) (fr_set (X := fun b => b = ub) (p := ⟨ub, q, none⟩) (Fr.refl _ _) (.inl rfl) _) (fun b hb e => hne7 b hb e)
                have hxl := lt_of HX3R.out
                have HB4 : Hid (∀ (i : Nat) (v : Value) (b : Nat), (vs2.set q (.slice a7 (m3 + m6) c7))[i]? = some v → v.ownBlock = some b → b ≠ xB) := fun i v b hv hb => by
                  by_cases e : q = i
                  · subst e
                    rw [List.getElem?_set_self HUSL.out] at hv
                    injection hv with hv
                    subst hv
                    rcases hb7a with h | h
                    · rw [h] at hb
                      exact HB3.out q _ b HV3.out hb
                    · rw [h] at hb
                      injection hb with hb
                      omega
                  · rw [List.getElem?_set_ne e] at hv
                    exact HB3.out i v b hv hb
                have HX4 := Lib.hid (HFX.out.row HX3R.out hxx)
                have hubE := HUB.out
                unfold Hid at hubE
                have HG4 : Hid (w9.grownBy (w7.setCell ⟨ub, q, none⟩ (.slice a7 (m3 + m6) c7)) none) := Fr.grown ((Fr.none HG3.out).trans HFX.out) (fun b hb => by
                  have := HXB.out b hb
                  omega)
                have HC4 := Lib.hid (HC3.out.fr HFX.out (fun b hb e => by
                  have := HXB.out b e
                  omega))
                obtain ⟨w8x, hw8⟩ : ∃ w8x, w7.setCell ⟨ub, q, none⟩ (.slice a7 (m3 + m6) c7) = w8x := ⟨_, rfl⟩
                rw [hw8] at HO4 HX4 HG4 HC4
                simp only [hw8]
                clear hw8 hub7 ho7 hg7 hg7' hb7a hne7 HFX hxl hubE
                go_wp2_with fail
                refine ⟨?_, by simp [intOf]; omega⟩
                first
                  | exact ⟨q + 1, _, by omega, rfl, HO4.out, HB4.out, HX4.out, HG4.out, HC4.out⟩
                  | (repeat apply Exists.intro
                     refine ⟨?_, rfl⟩
                     exact ⟨q + 1, _, by omega, rfl, HO4.out, HB4.out, HX4.out, HG4.out, HC4.out⟩)
          · have e8 : r0.2 = 8 := by
              rw [hrs] at hr0
              simp at hr0
              rw [← hr0]
            rw [e8] at d1
            rw [hrb] at f1
            dsimp only at f1
            clear hrs hrb hil' hr0 e8 hcl2 f0 d0
            go_wp2_with fail
            go_ret
            exact ⟨by rfl, HGF.out⟩
        have hkl : (k : Int) < ((C : Int) + 1) := by omega
        have hkl2 : k < C + 1 := by omega
        have hwk : IntKind.i64.wrap ((k : Int) + 1) = (k : Int) + 1 := IntWalk.i64_in _ (by omega)
        obtain ⟨d, hd⟩ : ∃ d, n - a = d := ⟨_, rfl⟩
        have hwna : IntKind.i64.wrap ((n : Int) - (a : Int)) = (d : Int) := by rw [IntWalk.i64_in _ (by omega)]; omega
        obtain ⟨z, hz⟩ : ∃ z, ds[k]? = some z := ⟨ds[k]'(by rw [HCN.out]; exact hkl2), List.getElem?_eq_getElem _⟩
        obtain ⟨b6, o6, rfl, hA6, hcell⟩ := sla_at HDS.out hz
        have u1 := grown_cell HGR.out (hcell 0 _ rfl) (by simp)
        rw [Nat.mul_one, Nat.add_zero] at u1
        obtain ⟨c, hc⟩ : ∃ c, cutC n a z = c := ⟨_, rfl⟩
        have hcn : a + c ≤ n := by rw [← hc]; exact cutC_le z han
        have HTK : Hid (cutP ls n (ds.take (k + 1)) 0 = cutP ls n (ds.take k) 0 ++ [⟨ls.map fun l => (l.drop a).take c, (c : Int), false⟩] ∧ a + c = cutE n (ds.take (k + 1)) 0) := by
          refine ⟨?_, ?_⟩
          · rw [take_next hz, cutP_append, ← HAE.out]
            simp only [cutP, hc]
          · rw [take_next hz, cutE_append, ← HAE.out]
            simp only [cutE, hc]
        have hcd : c = if z < 0 ∨ (d : Int) < z then d else z.toNat := by rw [← hc, ← hd]; rfl
        clear hz hcell hc hd
        go_upto_region 18 with fail
        obtain ⟨BB, hBB⟩ : ∃ BB, decide (z < 0 ∨ (d : Int) < z) = BB := ⟨_, rfl⟩
        have HBB := Lib.hid hBB
        clear hBB
        go_cut [73] from 65 to 73 (fun v73 wx => v73 = .bool BB ∧ wz = wx)
        case first =>
          by_cases hz1 : z < 0
          · go_wp2_with fail
            go_meet
            refine ⟨?_, rfl⟩
            rw [← HBB.out, decide_eq_true (.inl hz1)]
          · by_cases hz2 : (d : Int) < z
            · go_wp2_with fail
              go_meet
              refine ⟨?_, rfl⟩
              rw [← HBB.out, decide_eq_true (.inr hz2)]
            · go_wp2_with fail
              go_meet
              refine ⟨?_, rfl⟩
              rw [← HBB.out, decide_eq_false (by omega)]
        obtain ⟨rfl, hwc⟩ := hcut
        subst hwc
        go_upto_if 73 with fail
        go_cut [13] from 74 to 76 (fun v13 wx => v13 = .int .i64 (c : Int) ∧ wz = wx)
        case first =>
          cases BB with
          | true =>
            have e : c = d := by rw [hcd, if_pos (of_decide_eq_true HBB.out)]
            subst e
            clear hcd
            go_wp2_with fail
            go_meet
            exact ⟨rfl, rfl⟩
          | false =>
            have hnz := of_decide_eq_false HBB.out
            have e : z = (c : Int) := by rw [hcd, if_neg hnz]; omega
            clear hcd hnz
            subst e
            go_wp2_with fail
            go_meet
            exact ⟨rfl, rfl⟩
        obtain ⟨rfl, hwc⟩ := hcut
        subst hwc
        clear hcd u1 hwna HBB
        have hwac : IntKind.i64.wrap ((a : Int) + (c : Int)) = ((a + c : Nat) : Int) := by rw [IntWalk.i64_in _ (by omega)]; omega
        go_upto_region 21 with fail
        have hgz7 : wz.grownBy (wz.alloc (.cells #[.slice none 0 0, .int .i64 (c : Int), .bool false] 34)) none := grown_alloc (grown_refl _ _) _
        have hpb7 := heap_alloc_new wz (.cells #[.slice none 0 0, .int .i64 (c : Int), .bool false] 34)
        have hsz7 : (wz.alloc (.cells #[.slice none 0 0, .int .i64 (c : Int), .bool false] 34)).heap.size = wz.heap.size + 1 := by simp
        obtain ⟨w7, hw7⟩ : ∃ w7, wz.alloc (.cells #[.slice none 0 0, .int .i64 (c : Int), .bool false] 34) = w7 := ⟨_, rfl⟩
        rw [hw7] at hgz7 hpb7 hsz7
        obtain ⟨pB, hpB⟩ : ∃ pB, wz.heap.size = pB := ⟨_, rfl⟩
        have HPBE := Lib.hid hpB
        rw [hpB] at hpb7 hsz7
        have hWz : W.heap.size ≤ pB := by
          have h1 := HGW6.out.size
          have h2 := HGR.out.size
          omega
        have HRW0 : Hid (RwS (pB + 1) w7 pB c 0 none 0 [] [] W.heap.size) := ⟨hpb7, World.ownsRow_nil _ _ _ _, rfl, rfl, Nat.le_refl _, fun i u l hu => by simp at hu, by omega, hWz⟩
        have HG77 : Hid (wz.grownBy w7 none) := hgz7
        have HWZP := Lib.hid hWz
        simp only [hw7, hpB]
        clear hgz7 hpb7 hsz7 hw7 hpB hWz
        go_wp2_with fail
        go_loopw [16, 81] (fun v16 v81 wr => ∃ (q : Nat) (ya : Option Addr) (yc : Nat) (us : List Value), q ≤ K ∧ v81 = .int .i64 (q : Int) ∧ Hid (RwS (pB + 1) wr pB c q ya yc us ((ls.take q).map fun l => (l.drop a).take c) W.heap.size) ∧ Hid (wz.grownBy wr none)) (fun _ v81 _ => K - (intOf v81).toNat)
        case atStart => exact ⟨0, none, 0, [], Nat.zero_le _, rfl, HRW0.out, HG77.out⟩
        case round =>
          obtain ⟨q, ya, yc, us, hq, rfl, HRW, HGU⟩ := hrel
          obtain ⟨wu, hwu⟩ : ∃ wu : World, wu = wr := ⟨_, rfl⟩
          subst hwu
          by_cases hqK : q = K
          · have h9 := hqK.symm
            subst h9
            clear hqK
            have HRD : Hid (InsR wu (fun b => b < W.heap.size ∨ (Value.slice ya K yc).ownBlock = some b) (.slice ya K yc) (ls.map fun l => (l.drop a).take c)) := by
              have h := HRW.out.reads
              rw [List.take_of_length_le (Nat.le_of_eq HK.out)] at h
              exact h
            have p0 := cell_of HRW.out.row 0
            have p1 := cell_of HRW.out.row 1
            have p2 := cell_of HRW.out.row 2
            obtain ⟨j4, hj4, hx0, hx1, hx2⟩ := info_parts info34
            have HPU := Lib.hid (HPS.out.grown HGU.out)
            have HBU : Hid (w6.heap.size ≤ wu.heap.size) := by
              have h1 := HGR.out.size
              have h2 := HGU.out.size
              unfold Hid
              omega
            have hWb := HGW6.out.size
            have hpe := HPBE.out
            unfold Hid at hpe
            have HQN : Hid (∀ b, (b < W.heap.size ∨ (Value.slice ya K yc).ownBlock = some b) → b < wu.heap.size ∧ (Value.slice pa k pc).ownBlock ≠ some b) := fun b hb => by
              have h1 := HWZP.out
              unfold Hid at h1
              have h2 := lt_of HRW.out.row
              rcases hb with hb | hb
              · refine ⟨by omega, fun e => ?_⟩
                have := (own_base HPS.out.own e).1
                omega
              · have h3 := own_base HRW.out.own hb
                refine ⟨h3.2, fun e => ?_⟩
                have := (own_base HPS.out.own e).2
                omega
            clear hWb hpe
            go_upto_region 28 with (at_builtin; refine wpList_append_own_at _ rfl _ _ 26 rfl w6.heap.size 34 j4 (.agg #[.slice none 0 0, .int .i64 0, .bool false]) 3 40 Try.underlying26 hj4 hx0 hx1 hx2 rfl (by decide) (.slice pa k pc) k (flC pcC ps) rfl (own_kept HPU.out.own (HGA5 _ _).out) ⟨wu.heap.size, 0, none⟩ 1 1 [.slice ya K yc, .int .i64 (c : Int), .bool false] rfl rfl (fun j u' hu => by rw [show ((⟨wu.heap.size, 0, none⟩ : Addr).add j) = ⟨wu.heap.size, 0 + j, none⟩ from Addr.add_lit _ _ _, Nat.zero_add, cell_of (heap_alloc_new _ _), ← Array.getElem?_toList]; exact hu) (by simp [Value.oneCell']) (by unfold maxLen; omega) (by omega) (by have h1 := HBU.out; unfold Hid at h1; have h3 := (HGA5 wu (.cells #[.slice ya K yc, .int .i64 (c : Int), .bool false] 34)).out.size; omega) ?_; intro v11 w11 ho11 hg11 _ hb11; obtain ⟨oa3, oc3, rfl⟩ := own_slice ho11; have HO11 := Lib.hid ho11; have HG11 := Lib.hid hg11; have HB11 := Lib.hid hb11; clear ho11 hg11 hb11)
            have HPN : Hid (PcS w6.heap.size w11 oa3 oc3 (k + 1) (ps ++ [(⟨ls.map fun l => (l.drop a).take c, (c : Int), false⟩, .slice ya K yc)]) (cutP ls n (ds.take (k + 1)) 0) (fun b => Q b ∨ (b < W.heap.size ∨ (Value.slice ya K yc).ownBlock = some b))) := by
              unfold Hid
              rw [HTK.out.1]
              exact (HPU.out.grown (HGA5 _ _).out).push HO11.out HG11.out HB11.out (InsR.grown HRD.out (HGA5 _ _).out) (fun b hb => ⟨Nat.lt_of_lt_of_le (HQN.out b hb).1 (HGA5 wu _).out.size, (HQN.out b hb).2⟩)
            have HGN : Hid (w6.grownBy w11 none) := grown_own (grown_trans (grown_trans HGR.out HGU.out) (HGA5 _ _).out) (own_kept HPU.out.own (HGA5 _ _).out) (Nat.le_refl _) HG11.out
            have HAN := Lib.hid HTK.out.2
            clear HPU HRD HQN HO11 HG11 HB11 p0 p1 p2 HRW HPS HTK
            go_wp2_with fail
            refine ⟨?_, by simp [intOf]; omega⟩
            first
              | exact ⟨k + 1, a + c, _, _, _, _, by omega, rfl, by simp, rfl, hcn, HAN.out, HPN.out, HGN.out⟩
              | (repeat apply Exists.intro
                 refine ⟨?_, rfl⟩
                 exact ⟨k + 1, a + c, _, _, _, _, by omega, rfl, by simp, rfl, hcn, HAN.out, HPN.out, HGN.out⟩)
          have hql : (q : Int) < (K : Int) := by omega
          have hql2 : q < K := by omega
          have hwq : IntKind.i64.wrap ((q : Int) + 1) = (q : Int) + 1 := IntWalk.i64_in _ (by omega)
          obtain ⟨l, hl⟩ : ∃ l, ls[q]? = some l := ⟨ls[q]'(by rw [HK.out]; exact hql2), List.getElem?_eq_getElem _⟩
          have HGWU : Hid (W.grownBy wu none) := grown_trans HGW6.out (grown_trans HGR.out HGU.out)
          obtain ⟨b8, o8, ro, rc, rfl, _, hcell, hrc, hcf⟩ := ins_at (InsR.grown HIN.out HGWU.out) hl
          have hll : l.length = n := HNN.out.2 l (List.mem_of_getElem? hl)
          rw [hll] at hcell hrc hcf
          obtain ⟨e, he⟩ : ∃ e, a + c = e := ⟨_, rfl⟩
          have HEE := Lib.hid he
          have hwe : IntKind.i64.wrap ((a : Int) + (c : Int)) = (e : Int) := by rw [hwac, he]
          have hmx : max (e : Int) 0 = (e : Int) := by omega
          have hea2 : e - a = c := by omega
          have hia : (0 : Int) ≤ (a : Int) := by omega
          have hia3 : (e : Int) ≤ (rc : Int) := by omega
          have hia4 : (a : Int) ≤ (e : Int) := by omega
          have hia5 : a ≤ e := by omega
          have hia6 : e ≤ rc := by omega
          have u8 := grown_cell (grown_refl wu none) hcell (by simp)
          clear he hwac
          rcases Nat.eq_zero_or_pos c with hc0 | hc0
          · have HSV : Hid (CFl wu (fun b => b < W.heap.size) (.slice ro c c) ((l.drop a).take c)) := ⟨[], .inr ⟨ro, c, by rw [hc0], rfl⟩, by rw [hc0]; simp⟩
            have hea : (e = a) = True := by
              have h := HEE.out
              unfold Hid at h
              simp
              omega
            clear hc0
            have HLP : Hid (CFl wu (fun b => b < W.heap.size) (.slice ro c c) ((l.drop a).take c)) := HSV.out
            have HLE : Hid (∃ ao cp, (.slice ro c c : Value) = .slice ao ((l.drop a).take c).length cp ∧ ((l.drop a).take c).length ≤ cp) := ⟨_, c, by rw [List.length_take, List.length_drop, hll, Nat.min_eq_left (by omega)], by rw [List.length_take]; omega⟩
            have v0 := cell_of HRW.out.row 0
            have vf := free_of HRW.out.row 0
            have HOWD : Hid (∀ w', wu.grownBy w' none → w'.ownsRow (pB + 1) 38 1 (.slice ya q yc) q (flC vC us)) := fun w' hg => own_kept HRW.out.own hg
            have HBS : Hid (pB + 1 ≤ wu.heap.size) := by
              have := lt_of HRW.out.row
              unfold Hid
              omega
            have HNO : Hid ((Value.slice ya q yc).ownBlock ≠ some pB) := fun e => by
              have h1 := (own_base HRW.out.own e).1
              omega
            have va0 : ∀ o, (wu.alloc o).cell? ⟨pB, 0, none⟩ = some (.slice ya q yc) := fun o => cell_of (row_kept (grown_alloc (grown_refl _ none) _) HRW.out.row (by simp)) 0
            have vb0 : ∀ o, (wu.alloc o).drew.cell? ⟨pB, 0, none⟩ = some (.slice ya q yc) := fun o => cell_of (row_kept (grown_drew (grown_alloc (grown_refl _ none) _)) HRW.out.row (by simp)) 0
            obtain ⟨j8, hj8, hy0, hy1, hy2⟩ := info_parts info38
            have HTQ : Hid ((ls.take (q + 1)).map (fun l => (l.drop a).take c) = ((ls.take q).map fun l => (l.drop a).take c) ++ [(l.drop a).take c]) := by
              unfold Hid
              rw [take_next hl, List.map_append, List.map_singleton]
            clear hl hcell hcf hll HSV
            go_upto_region 24 with fail
            go_region_law (refine step_append_lies _ rfl (.tmp 86) (.tmp 96) 32 rfl (pB + 1) 38 j8 (.slice none 0 0) 1 24 Try.underlying32 hj8 hy0 hy1 hy2 rfl (by decide) (.slice ya q yc) q (flC vC us) rfl (HOWD.out _ (by repeat (first | exact grown_alloc (grown_refl _ _) _ | refine grown_drew ?_))) ⟨wu.heap.size, 0, none⟩ 1 1 [.slice ro c c] rfl rfl (World.news_of_block (cs := #[.slice ro c c]) (t := 38) (fr := (0, 0)) (by exact heap_alloc_new wu _)) (by simp [Value.oneCell']) (by decide) (by unfold maxLen; omega) (by omega) (by have := HBS.out; unfold Hid at this; simp; omega) _ rfl ?_; intro g9 cap w9 hown9 hgrow hat hlt9; have HG9 : Hid (wu.grownBy w9 (Value.slice ya q yc).ownBlock) := grown_trans (grown_none (by repeat (first | exact grown_alloc (grown_refl _ _) _ | refine grown_drew ?_)) _) hgrow; have HOWN := Lib.hid hown9; have HR9 := row_kept HG9.out HRW.out.row (fun e => HNO.out e.symm); have t0 := cell_of HR9 0; have tf := free_of HR9 0; clear hown9 hgrow hat hlt9 HR9)
            all_goals
              have HPU : Hid (RwS (pB + 1) (w9.setCell ⟨pB, 0, none⟩ (.slice (some ⟨g9, 0, none⟩) (q + 1) cap)) pB c (q + 1) (some ⟨g9, 0, none⟩) cap (us ++ [.slice ro c c]) ((ls.take (q + 1)).map fun l => (l.drop a).take c) W.heap.size) := by
                unfold Hid
                rw [HTQ.out]
                exact HRW.out.push HOWN.out HG9.out HLP.out HLE.out
              have hpe := HPBE.out
              unfold Hid at hpe
              have HGN : Hid (wz.grownBy (w9.setCell ⟨pB, 0, none⟩ (.slice (some ⟨g9, 0, none⟩) (q + 1) cap)) none) := grown_set (p := ⟨pB, 0, none⟩) (grown_own HGU.out HRW.out.own (by omega) HG9.out) (.inr (by dsimp only; omega)) _
              clear hpe v0 vf va0 vb0 t0 tf
              go_wp2_with fail
              refine ⟨?_, by simp [intOf]; omega⟩
              first
                | exact ⟨q + 1, _, _, _, by omega, rfl, HPU.out, HGN.out⟩
                | (repeat apply Exists.intro
                   refine ⟨?_, rfl⟩
                   exact ⟨q + 1, _, _, _, by omega, rfl, HPU.out, HGN.out⟩)
          have hea : (e = a) = False := by
            have h := HEE.out
            unfold Hid at h
            simp
            omega
          obtain ⟨b7, o7, rfl, hcs⟩ := slice_pos (by rw [hll]; exact hcf) (by rw [hll]; exact hrc) a c (by rw [hll]; exact hcn) hc0
          have HSV : Hid (CFl wu (fun b => b < W.heap.size) (.slice (some ⟨b7, o7 + a, none⟩) c c) ((l.drop a).take c)) := cfl_cap hcs c
          clear hcs
          have HLP : Hid (CFl wu (fun b => b < W.heap.size) (.slice (some ⟨b7, o7 + a, none⟩) c c) ((l.drop a).take c)) := HSV.out
          have HLE : Hid (∃ ao cp, (.slice (some ⟨b7, o7 + a, none⟩) c c : Value) = .slice ao ((l.drop a).take c).length cp ∧ ((l.drop a).take c).length ≤ cp) := ⟨_, c, by rw [List.length_take, List.length_drop, hll, Nat.min_eq_left (by omega)], by rw [List.length_take]; omega⟩
          have v0 := cell_of HRW.out.row 0
          have vf := free_of HRW.out.row 0
          have HOWD : Hid (∀ w', wu.grownBy w' none → w'.ownsRow (pB + 1) 38 1 (.slice ya q yc) q (flC vC us)) := fun w' hg => own_kept HRW.out.own hg
          have HBS : Hid (pB + 1 ≤ wu.heap.size) := by
            have := lt_of HRW.out.row
            unfold Hid
            omega
          have HNO : Hid ((Value.slice ya q yc).ownBlock ≠ some pB) := fun e => by
            have h1 := (own_base HRW.out.own e).1
            omega
          have va0 : ∀ o, (wu.alloc o).cell? ⟨pB, 0, none⟩ = some (.slice ya q yc) := fun o => cell_of (row_kept (grown_alloc (grown_refl _ none) _) HRW.out.row (by simp)) 0
          have vb0 : ∀ o, (wu.alloc o).drew.cell? ⟨pB, 0, none⟩ = some (.slice ya q yc) := fun o => cell_of (row_kept (grown_drew (grown_alloc (grown_refl _ none) _)) HRW.out.row (by simp)) 0
          obtain ⟨j8, hj8, hy0, hy1, hy2⟩ := info_parts info38
          have HTQ : Hid ((ls.take (q + 1)).map (fun l => (l.drop a).take c) = ((ls.take q).map fun l => (l.drop a).take c) ++ [(l.drop a).take c]) := by
            unfold Hid
            rw [take_next hl, List.map_append, List.map_singleton]
          clear hl hcell hcf hll HSV
          go_upto_region 24 with fail
          go_region_law (refine step_append_lies _ rfl (.tmp 86) (.tmp 96) 32 rfl (pB + 1) 38 j8 (.slice none 0 0) 1 24 Try.underlying32 hj8 hy0 hy1 hy2 rfl (by decide) (.slice ya q yc) q (flC vC us) rfl (HOWD.out _ (by repeat (first | exact grown_alloc (grown_refl _ _) _ | refine grown_drew ?_))) ⟨wu.heap.size, 0, none⟩ 1 1 [.slice (some ⟨b7, o7 + a, none⟩) c c] rfl rfl (World.news_of_block (cs := #[.slice (some ⟨b7, o7 + a, none⟩) c c]) (t := 38) (fr := (0, 0)) (by exact heap_alloc_new wu _)) (by simp [Value.oneCell']) (by decide) (by unfold maxLen; omega) (by omega) (by have := HBS.out; unfold Hid at this; simp; omega) _ rfl ?_; intro g9 cap w9 hown9 hgrow hat hlt9; have HG9 : Hid (wu.grownBy w9 (Value.slice ya q yc).ownBlock) := grown_trans (grown_none (by repeat (first | exact grown_alloc (grown_refl _ _) _ | refine grown_drew ?_)) _) hgrow; have HOWN := Lib.hid hown9; have HR9 := row_kept HG9.out HRW.out.row (fun e => HNO.out e.symm); have t0 := cell_of HR9 0; have tf := free_of HR9 0; clear hown9 hgrow hat hlt9 HR9)
          all_goals
            have HPU : Hid (RwS (pB + 1) (w9.setCell ⟨pB, 0, none⟩ (.slice (some ⟨g9, 0, none⟩) (q + 1) cap)) pB c (q + 1) (some ⟨g9, 0, none⟩) cap (us ++ [.slice (some ⟨b7, o7 + a, none⟩) c c]) ((ls.take (q + 1)).map fun l => (l.drop a).take c) W.heap.size) := by
              unfold Hid
              rw [HTQ.out]
              exact HRW.out.push HOWN.out HG9.out HLP.out HLE.out
            have hpe := HPBE.out
            unfold Hid at hpe
            have HGN : Hid (wz.grownBy (w9.setCell ⟨pB, 0, none⟩ (.slice (some ⟨g9, 0, none⟩) (q + 1) cap)) none) := grown_set (p := ⟨pB, 0, none⟩) (grown_own HGU.out HRW.out.own (by omega) HG9.out) (.inr (by dsimp only; omega)) _
            clear hpe v0 vf va0 vb0 t0 tf
            go_wp2_with fail
            refine ⟨?_, by simp [intOf]; omega⟩
            first
              | exact ⟨q + 1, _, _, _, by omega, rfl, HPU.out, HGN.out⟩
              | (repeat apply Exists.intro
                 refine ⟨?_, rfl⟩
                 exact ⟨q + 1, _, _, _, by omega, rfl, HPU.out, HGN.out⟩)
    have hkl : (k : Int) < (K : Int) := by omega
    have hkl2 : k < K := by omega
    have hwk : IntKind.i64.wrap ((k : Int) + 1) = (k : Int) + 1 := IntWalk.i64_in _ (by omega)
    obtain ⟨l, hl⟩ : ∃ l, ls[k]? = some l := ⟨ls[k]'(by rw [HK.out]; exact hkl2), List.getElem?_eq_getElem _⟩
    obtain ⟨b6, o6, ro, rc, rfl, _, hcell, _, _⟩ := ins_at (InsR.grown HIN.out HG2.out) hl
    obtain ⟨LL, hLL⟩ : ∃ LL, l.length = LL := ⟨_, rfl⟩
    rw [hLL] at hcell
    have HNX : Hid (LL = nk ∨ k = 0 → ∀ l' ∈ ls.take (k + 1), l'.length = LL) := fun hor l' hl' => by
      rw [take_next hl, List.mem_append, List.mem_singleton] at hl'
      rcases hl' with h | h
      · rcases hor with e | e
        · rw [e]
          exact HLN.out l' h
        · subst e
          simp at h
      · rw [h, hLL]
    clear hl hLL
    by_cases h5 : 5000 < LL
    · have h5i : (5000 : Int) < (LL : Int) := by omega
      by_cases hk0 : k = 0
      · have hki : (k : Int) ≤ 0 := by omega
        have HK0 := Lib.hid hk0
        clear hk0
        go_wp2_with fail
        go_ret
        exact ⟨rfl, HG2.out⟩
      · have hki : (0 : Int) < (k : Int) := by omega
        have hb : ((LL : Int) == (nk : Int)) = false := by simp; omega
        go_wp2_with fail
        go_ret
        exact ⟨rfl, HG2.out⟩
    have h5i : ¬ (5000 : Int) < (LL : Int) := by omega
    by_cases hk0 : k = 0
    · have hki : (k : Int) ≤ 0 := by omega
      have HNY := Lib.hid (HNX.out (.inr hk0))
      have HK0 := Lib.hid hk0
      clear hk0
      go_wp2_with fail
      refine ⟨?_, by simp [intOf]; omega⟩
      first
        | exact ⟨k + 1, LL, by omega, rfl, rfl, trivial, by omega, HNY.out⟩
        | (repeat apply Exists.intro
           refine ⟨?_, rfl⟩
           exact ⟨k + 1, LL, by omega, rfl, rfl, trivial, by omega, HNY.out⟩)
    · have hki : (0 : Int) < (k : Int) := by omega
      by_cases he : LL = nk
      · have HNY := Lib.hid (HNX.out (.inl he))
        subst he
        go_wp2_with fail
        refine ⟨?_, by simp [intOf]; omega⟩
        first
          | exact ⟨k + 1, LL, by omega, rfl, rfl, trivial, by omega, HNY.out⟩
          | (repeat apply Exists.intro
             refine ⟨?_, rfl⟩
             exact ⟨k + 1, LL, by omega, rfl, rfl, trivial, by omega, HNY.out⟩)
      · have hb : ((LL : Int) == (nk : Int)) = false := by simp; omega
        go_wp2_with fail
        go_ret
        exact ⟨rfl, HG2.out⟩
end Go.Proofs.Ytdliilmnfbgplaa.GBlocksL
