/- Find: the walk. -/
import Derived.Test.YthdohdllpaijhaaRFnd
import Derived.Test.YthdohdllpaijhaaMixed
namespace Go.Proofs.Ythdohdllpaijhaa.RFind
open Go Go.RowKit Go.Proofs.Ythdohdllpaijhaa.RMod Go.Proofs.Ythdohdllpaijhaa.RCnt Go.Proofs.Ythdohdllpaijhaa.RMap Go.Proofs.Ythdohdllpaijhaa.ROn Go.Proofs.Ythdohdllpaijhaa.RTab Go.Proofs.Ythdohdllpaijhaa.RWrong Go.Proofs.Ythdohdllpaijhaa.RCount Go.Proofs.Ythdohdllpaijhaa.RFnd Go.Proofs.Ythdohdllpaijhaa.RAlone Go.Proofs.Ythdohdllpaijhaa.Hp Go.Proofs.Ythdohdllpaijhaa.Rd Go.Proofs.Ythdohdllpaijhaa.App
set_option linter.unusedVariables false
set_option linter.unusedSimpArgs false

theorem info3 : (Try.prog.info? 3).map (fun i => (i.zero, i.size, i.bytes)) = some (some (.int .i64 0), 1, 8) := by kernel_rfl

theorem own_none {w w' : World} {base m : Nat} {e : TypeId} {v : Value} {xs : List Value} (h : w.ownsRow base e 1 v m xs) (hg : w.grownBy w' none) : w'.ownsRow base e 1 v m xs := h.kept hg (by
  cases v.ownBlock with
  | none => exact .inl rfl
  | some j => exact .inr (by simp))

theorem grown_own {a b c : World} {row : Option Nat} (h : a.grownBy b none) (g : b.grownBy c row) (hr : ∀ j, row = some j → a.heap.size ≤ j) : a.grownBy c none := by
  cases row with
  | none => exact grown_trans h g
  | some j => exact grown_from h g (.inl (hr j rfl))

/-- A world in which this state lies there. -/
structure Lies (sb : Nat) (K : Int) (S : Bool) where
  w : World
  h : w.heap[sb]? = some (.cells #[.int .i64 K, .bool S] 43 (0, 0))

def lies (sb : Nat) (K : Int) (S : Bool) (w' : World) : Prop := ∃ n : Lies sb K S, w' = n.w
theorem lies_of {sb : Nat} {K : Int} {S : Bool} {w' : World} (h : w'.heap[sb]? = some (.cells #[.int .i64 K, .bool S] 43 (0, 0))) : lies sb K S w' := ⟨⟨w', h⟩, rfl⟩

theorem wpM_store {P : Program} {ops : Array Oper} {C : World → Prop} {B : Nat → Bool} {Q : Act → World → Prop} {k : Nat} {o : Oper} {rest : List Oper} {a : Act} {w : World} (hw : Region.wanted o (yielded ops a.tmps) = true) (hB : B k = true) (w' : World)
    (hr : (execOp a.eval o).run P w = .ok .skip w') (hc : C w') (h : Mixed.wpM P ops C B Q (k + 1) rest (a.put o.dst undef) w') : Mixed.wpM P ops C B Q k (o :: rest) a w := by
  refine Mixed.wpM_big hw hB ?_
  unfold Mixed.bigAt
  rw [hr]
  exact ⟨hc, h⟩

theorem wpM_append {P : Program} {ops : Array Oper} {C : World → Prop} {B : Nat → Bool} {Q : Act → World → Prop} {k : Nat} {o : Oper} {rest : List Oper} {a : Act} {w : World} (hw : Region.wanted o (yielded ops a.tmps) = true) (hB : B k = true) (s x : Operand) (t : TypeId)
    (ho : o.op = .call { callee := .builtin .append, args := #[s, x], argTypes := #[t, t] })
    (base : Nat) (e : TypeId) (i : TypeInfo) (z : Value) (bytes : Nat) (ht : P.underlying t = some (.slice e)) (hi : P.info? e = some i) (hz : i.zero = some z)
    (hsize : i.size = 1) (hby : i.bytes = bytes) (hzs : z.cells.size = 1)
    (v : Value) (n : Nat) (xs : List Value) (hs : a.eval s = v) (hown : w.ownsRow base e 1 v n xs)
    (ad : Addr) (m c : Nat) (news : List Value) (hx : a.eval x = .slice (some ad) m c) (hl : news.length = m) (hnews : ∀ j u, news[j]? = some u → w.cell? (ad.add j) = some u) (h1 : ∀ u ∈ news, u.oneCell' = true)
    (h63 : n + m ≤ maxLen) (hbytes : (n + m) * bytes ≤ 140737488355328) (hbase : base ≤ w.heap.size)
    (h : ∀ v' w', w'.ownsRow base e 1 v' (n + m) (xs ++ news) → w.grownBy w' v.ownBlock → (v'.ownBlock = v.ownBlock ∨ v'.ownBlock = some w.heap.size) → C w' ∧ Mixed.wpM P ops C B Q (k + 1) rest (a.put o.dst v') w') :
    Mixed.wpM P ops C B Q k (o :: rest) a w := by
  obtain ⟨v', w', hr, h2, h3, h4, h5⟩ := run_append_own_at (P := P) w base t o.type e i z 1 bytes ht hi hz hsize hby hzs (by decide) v n xs hown ad m c news (by omega) hnews h1 h63 hbytes hbase
  obtain ⟨hc, hk⟩ := h v' w' h2 h3 h5
  refine Mixed.wpM_make hw hB v' w' ?_ hc hk
  unfold execOp
  simp only [ho, resolve, invoke, builtin, Sem.run_bind, Sem.run_pure, Result.andThen_ok, List.map_toArray, List.map_cons, List.map_nil, hs, hx, hr]

set_option maxHeartbeats 4000000 in
set_option maxRecDepth 100000 in
theorem find_calls (r : Ru) (ao : Option Addr) (cp : Nat) (g : List Int) (w : World) (hv : Ils w (.slice ao g.length cp) g) :
    Calls Try.prog 9 #[.agg #[.int .i64 r.low, .int .i64 r.high, .bool r.above, .int .i64 r.leap, .int .i64 r.classes], .slice ao g.length cp] w
      fun e w' => ∃ v, e = .returned (.tuple #[v, .int .i64 (findE r g)]) ∧ Hid (Ils w' v (findL r g)) ∧ Hid (w.grownBy w' none) := by
  have W1 := Lib.hid (fun w' hg => wrong_calls r ao cp g w' (Ils.grown hv hg))
  by_cases h0 : wrongR r g = 0
  · have hok := okG_of h0
    have hlen := hok.len
    obtain ⟨n, hn⟩ : ∃ n, g.length = n + 1 := ⟨g.length - 1, by omega⟩
    have T1 := Lib.hid (fun w' hg => table_calls r ao cp g n w' hn hok (Ils.grown hv hg))
    have HOK := Lib.hid hok
    have HE : Hid (findE r g = match findC r g with | none => 6 | some _ => 0) := by unfold Hid findE; rw [if_pos h0]; rfl
    have HL : Hid (findL r g = (findC r g).getD []) := by unfold Hid findL; rw [if_pos h0]
    have HC0 : Hid (findC r g = findFrom (tabF r g) r g (n + 1) 0 (-1) false) := by unfold Hid findC; rw [hn]
    obtain ⟨FC, hFC⟩ : ∃ x, findC r g = x := ⟨_, rfl⟩
    obtain ⟨FE, hFE⟩ : ∃ x, findE r g = x := ⟨_, rfl⟩
    obtain ⟨FL, hFL⟩ : ∃ x, findL r g = x := ⟨_, rfl⟩
    rw [hFC] at HE HL HC0
    rw [hFE] at HE ⊢
    rw [hFL] at HL ⊢
    have BH : Hid (∀ (i : Nat) (k lk sm : Int) (ls : Bool) (w' : World), i ≤ n → 0 < i → w.grownBy w' none → 0 ≤ k ∧ k ≤ 127 → 0 ≤ lk ∧ lk ≤ 127 → ls = decide (0 < sm) → Calls Try.prog 19 #[.agg #[.int .i64 r.low, .int .i64 r.high, .bool r.above, .int .i64 r.leap, .int .i64 r.classes], .slice ao (n + 1) cp, .int .i64 (i : Int), .int .i64 k, .int .i64 lk, .int .i64 sm] w'
        fun e w'' => e = .returned (.int .i64 (behindZ r g i k lk ls)) ∧ Hid (w'.grownBy w'' none)) := by
      intro i k lk sm ls w' hi hi0 hg hk hlk hs
      have := behind_calls r ao cp g i k lk sm ls w' hok (Ils.grown hv hg) (by omega) hi0 hk hlk hs
      rw [hn] at this
      exact this
    have hTF : (fun i => tabC r g (n - i)) = tabF r g := by funext i; unfold tabF; rw [hn, Nat.add_sub_cancel]
    simp only [hTF] at T1
    obtain ⟨T, hT⟩ : ∃ T, tabF r g = T := ⟨_, rfl⟩
    rw [hT] at T1 HC0
    rw [h0] at W1
    have HRS := Lib.hid hok.rules
    rw [hn] at hlen W1 T1 ⊢
    have hrs := hok.rules
    unfold okR at hrs
    obtain ⟨q0, q1, q2, _, _, _⟩ := hrs
    clear hv hok hn hFC hFE hFL h0 hT hTF
    obtain ⟨low, high, above, leap, classes⟩ := r
    simp only at W1 T1 BH q0 q1 q2 ⊢
    obtain ⟨rr, hrr⟩ : ∃ rr : Ru, (⟨low, high, above, leap, classes⟩ : Ru) = rr := ⟨_, rfl⟩
    have HRR := Lib.hid hrr
    rw [hrr] at HC0 BH
    have hlo : rr.low = low := by rw [← hrr]
    have hhi : rr.high = high := by rw [← hrr]
    have HLO := Lib.hid hlo
    have HHI := Lib.hid hhi
    clear hrr hlo hhi
    obtain ⟨i0, hi, hz0, hz1, hz2⟩ := info_parts info3
    have HG0 : Hid (w.grownBy (w.alloc (.cells #[.int .i64 low, .int .i64 high, .bool above, .int .i64 leap, .int .i64 classes] 23)) none) := grown_alloc (grown_refl _ _) _
    have HROW0 : Hid ((w.alloc (.cells #[.int .i64 low, .int .i64 high, .bool above, .int .i64 leap, .int .i64 classes] 23)).heap[w.heap.size]? = some (.cells #[.int .i64 low, .int .i64 high, .bool above, .int .i64 leap, .int .i64 classes] 23 (0, 0))) := heap_alloc_new _ _
    have HS0 : Hid (w.heap.size < (w.alloc (.cells #[.int .i64 low, .int .i64 high, .bool above, .int .i64 leap, .int .i64 classes] 23)).heap.size) := by unfold Hid; simp
    go_enter Try.func9, Try.ntmps9
    go_upto_region 4 with (go_at_call 10; refine (W1.out _ HG0.out).mono ?_; rintro e w1 ⟨rfl, hg1⟩)
    have HG1 : Hid (w.grownBy w1 none) := grown_trans HG0.out hg1.out
    have HROW1 : Hid (w1.heap[w.heap.size]? = some (.cells #[.int .i64 low, .int .i64 high, .bool above, .int .i64 leap, .int .i64 classes] 23 (0, 0))) := by
      unfold Hid; rw [hg1.out.block _ HS0.out (by simp)]; exact HROW0.out
    have r0 := cell_of HROW1.out 0
    have r1 := cell_of HROW1.out 1
    have r2 := cell_of HROW1.out 2
    have r3 := cell_of HROW1.out 3
    have r4 := cell_of HROW1.out 4
    have HB1 : Hid (w.heap.size < w1.heap.size) := Nat.lt_of_lt_of_le HS0.out hg1.out.size
    go_upto_region 5 with (go_at_call 18; refine (T1.out _ HG1.out).mono ?_; rintro e w2 ⟨cb, rfl, hcb, htabs, hg2⟩)
    have HT2 : Hid (TF w2 w2.heap.size cb n T) := TF.of htabs.out
    have HG2 : Hid (w.grownBy w2 none) := grown_trans HG1.out hg2.out
    have HROW2 : Hid (w2.heap[w.heap.size]? = some (.cells #[.int .i64 low, .int .i64 high, .bool above, .int .i64 leap, .int .i64 classes] 23 (0, 0))) := by
      unfold Hid; rw [hg2.out.block _ HB1.out (by simp)]; exact HROW1.out
    have HGB : Hid (w.heap.size < w2.heap.size) := Nat.lt_of_lt_of_le HB1.out hg2.out.size
    obtain ⟨gb, hgb⟩ : ∃ gb, w.heap.size = gb := ⟨_, rfl⟩
    rw [hgb] at HROW2 HGB
    simp only [hgb]
    have HGBE := Lib.hid hgb
    clear r0 r1 r2 r3 r4 HB1 HROW1 HS0 HROW0 HG0 hg1 HG1 hcb htabs hg2 hgb W1 T1
    go_wp2_with fail
    obtain ⟨lb, hlb⟩ : ∃ lb, w2.heap.size = lb := ⟨_, rfl⟩
    obtain ⟨w3, hw3⟩ : ∃ w3, w2.alloc (.cells #[.int .i64 (-1), .bool false] 43) = w3 := ⟨_, rfl⟩
    rw [hlb] at HT2 HGB
    have HLB3 : Hid (w3.heap[lb]? = some (.cells #[.int .i64 (-1), .bool false] 43 (0, 0))) := by unfold Hid; rw [← hw3, ← hlb]; exact heap_alloc_new _ _
    have HG23 : Hid (w2.grownBy w3 none) := by unfold Hid; rw [← hw3]; exact grown_alloc (grown_refl _ _) _
    have HT3 : Hid (TF w3 lb cb n T) := HT2.out.kept HG23.out (fun j h => by cases h)
    have HROW3 : Hid (w3.heap[gb]? = some (.cells #[.int .i64 low, .int .i64 high, .bool above, .int .i64 leap, .int .i64 classes] 23 (0, 0))) := kept_row HROW2.out HGB.out HG23.out (fun j h => by cases h)
    have HG3 : Hid (w.grownBy w3 none) := grown_trans HG2.out HG23.out
    have HS3 : Hid (lb < w3.heap.size) := lt_of HLB3.out
    have HWL : Hid (w.heap.size ≤ lb) := by unfold Hid; rw [HGBE.out]; exact Nat.le_of_lt HGB.out
    obtain ⟨n1, hn1⟩ : ∃ n1, n + 1 = n1 := ⟨_, rfl⟩
    have hn1' : 0 < n1 := by omega
    rw [hn1] at hlen HC0 BH
    have hnz : (n : Int) + 1 = (n1 : Int) := by omega
    simp only [hlb, hw3, hn1, hnz]
    have HN1 := Lib.hid hn1
    clear hlb hw3 HT2 HROW2 HG2 HG23 hn1 hnz
    go_loopw [8, 27] (fun v8 v27 wr => ∃ (i : Nat) (out : List Int) (lk : Int) (ls : Bool), i ≤ n1 ∧ v27 = .int .i64 (i : Int) ∧ Hid (out.length = i) ∧ Hid (wr.ownsRow (lb + 1) 3 1 v8 i (out.map (Value.int .i64))) ∧ Hid (FC = (findFrom T rr g (n1 - i) i lk ls).map (out ++ ·)) ∧
      Hid (wr.heap[lb]? = some (.cells #[.int .i64 lk, .bool ls] 43 (0, 0))) ∧ Hid (TF wr lb cb n T) ∧ Hid (wr.heap[gb]? = some (.cells #[.int .i64 low, .int .i64 high, .bool above, .int .i64 leap, .int .i64 classes] 23 (0, 0))) ∧ Hid (w.grownBy wr none) ∧
      Hid (i = 0 → ls = false) ∧ Hid (0 < i → 0 ≤ lk ∧ lk ≤ 127)) (fun _ v27 _ => n1 - (intOf v27).toNat)
    case atStart =>
      exact ⟨0, [], -1, false, Nat.zero_le _, rfl, rfl, World.ownsRow_nil _ _ _ _, (by unfold Hid; rw [HC0.out]; simp), HLB3.out, HT3.out, HROW3.out, HG3.out, (fun _ => rfl), (fun h => absurd h (by omega))⟩
    case round =>
      obtain ⟨i, out, lk, ls, hil, rfl, HOL, HO, HF, HST, HT, HROW, HG, HI0, HI1⟩ := hrel
      by_cases hend : i = n1
      · have HFF : Hid (FC = some out) := by unfold Hid; rw [HF.out, hend, Nat.sub_self]; simp [findFrom]
        have HX : Hid (FE = 0) := by unfold Hid; rw [HE.out, HFF.out]
        have HY : Hid (FL = out) := by unfold Hid; rw [HL.out, HFF.out]; rfl
        have HO2 : Hid (Ils wr u8 FL) := by
          unfold Hid
          rw [HY.out]
          rcases owns_cells HO.out with ⟨rfl, h2, h3⟩ | ⟨q, cap, rfl, _, _, _, hq⟩
          · exact .inr ⟨_, _, rfl, by simpa using h3⟩
          · rw [← HOL.out]
            exact .inl ⟨q, 0, cap, rfl, fun j x hx => ⟨.int .i64 x, by rw [Nat.zero_add]; exact hq j _ (by simp [hx]), rfl⟩⟩
        subst hend
        go_wp2_with fail
        go_ret2
        exact ⟨_, by rw [HX.out]; rfl, HO2.out, HG.out⟩
      have hlt : i < n1 := by omega
      have hin : i ≤ n := by have := HN1.out; unfold Hid at this; omega
      obtain ⟨P, hP⟩ : ∃ P, okK T rr g i lk ls = P := ⟨_, rfl⟩
      have HPK := Lib.hid hP
      have hPK : ∀ k, okK T rr g i lk ls k = P k := fun k => by rw [hP]
      have PF : Hid (∀ K, low ≤ K → K ≤ high → (∀ k, low ≤ k → k < K → P k = false) → P K = true → pick T rr g i lk ls = some K) := fun K h1 h2 h3 h4 => pick_first (by rw [HLO.out]; exact h1) (by rw [HHI.out]; exact h2) (fun k a b => by rw [hPK]; exact h3 k (by rw [← HLO.out]; exact a) b) (by rw [hPK]; exact h4)
      have PN : Hid ((∀ k, low ≤ k → k < high + 1 → P k = false) → pick T rr g i lk ls = none) := fun h => pick_none (by rw [HLO.out, HHI.out]; exact q2) (fun k a b => by rw [hPK]; exact h k (by rw [← HLO.out]; exact a) (by rw [← HHI.out]; exact b))
      have r0 := cell_of HROW.out 0
      clear hP hPK
      go_wp2_with fail
      clear r0
      go_loopw [8, 11, 12, 13] (fun v8 v11 v12 v13 wr => ∃ (K : Int) (fd : Bool) (o2 : List Int) (lk2 : Int) (ls2 : Bool), low ≤ K ∧ K ≤ high + 1 ∧ v12 = .int .i64 K ∧ v11 = .bool fd ∧ Hid (wr.ownsRow (lb + 1) 3 1 v8 o2.length (o2.map (Value.int .i64))) ∧
        Hid (wr.heap[lb]? = some (.cells #[.int .i64 lk2, .bool ls2] 43 (0, 0))) ∧ Hid (TF wr lb cb n T) ∧ Hid (wr.heap[gb]? = some (.cells #[.int .i64 low, .int .i64 high, .bool above, .int .i64 leap, .int .i64 classes] 23 (0, 0))) ∧ Hid (w.grownBy wr none) ∧
        Hid (fd = false → o2 = out ∧ lk2 = lk ∧ ls2 = ls ∧ ∀ k, low ≤ k → k < K → P k = false) ∧ Hid (fd = true → o2.length ≤ 64 ∧ ∃ k0, pick T rr g i lk ls = some k0 ∧ o2 = out ++ [k0] ∧ lk2 = k0 ∧ ls2 = (decide (0 < i) && (k0 == lk)) ∧ low ≤ k0 ∧ k0 ≤ high)) (fun _ _ v12 _ _ => (high + 1 - intOf v12).toNat)
      case atStart =>
        refine ⟨low, false, out, lk, ls, by omega, by omega, rfl, rfl, ?_, HST.out, HT.out, HROW.out, HG.out, fun _ => ⟨rfl, rfl, rfl, fun k a b => absurd b (by omega)⟩, fun h => by cases h⟩
        unfold Hid
        rw [HOL.out]
        exact HO.out
      case round =>
        clear HO HST HT HROW HG
        obtain ⟨K, fd, o2, lk2, ls2, hK0, hK1, rfl, rfl, HO, HST, HT, HROW, HG, HF0, HF1⟩ := hrel
        have r0 := cell_of HROW.out 0
        have r1 := cell_of HROW.out 1
        have r2 := cell_of HROW.out 2
        have r3 := cell_of HROW.out 3
        have r4 := cell_of HROW.out 4
        cases fd
        · obtain ⟨rfl, rfl, rfl, hnone⟩ := HF0.out rfl
          have HNO := Lib.hid hnone
          clear hnone HF0 HF1
          by_cases hKe : K = high + 1
          · subst hKe
            have HPN := Lib.hid (PN.out HNO.out)
            have HFF : Hid (FC = none) := by
              unfold Hid
              rw [HF.out, show n1 - i = (n1 - i - 1) + 1 from by omega]
              simp only [findFrom, HPN.out, Option.map_none]
            have HX : Hid (FE = 6) := by unfold Hid; rw [HE.out, HFF.out]
            have HY : Hid (Ils wr (.slice none 0 0) FL) := by unfold Hid; rw [HL.out, HFF.out]; exact .inr ⟨_, _, rfl, rfl⟩
            go_wp2_with fail
            go_ret2
            exact ⟨_, by rw [HX.out]; rfl, HY.out, HG.out⟩
          have hK2 : K ≤ high := by omega
          have hKb : 0 ≤ K ∧ K ≤ 127 := by omega
          have s0 := cell_of HST.out 0
          have s1 := cell_of HST.out 1
          rcases Nat.eq_zero_or_pos i with hi0 | hi0
          · have hiz : (i : Int) ≤ 0 := by omega
            have hdz : decide ((0 : Int) < (i : Int)) = false := by simp; omega
            obtain rfl := HI0.out hi0
            have HI00 := Lib.hid hi0
            clear hi0
            obtain ⟨bm, hbm, hcell, htab⟩ := HT.out.2 i hin
            have hii : (i : Int) < (n1 : Int) := by omega
            have HWX : Hid (∀ o, wr.grownBy (wr.alloc o) none) := fun o => grown_alloc (grown_refl _ _) _
            have hcx : ∀ o, (wr.alloc o).cell? ⟨cb, i, none⟩ = some (.map (some bm)) := fun o => grown_cell (HWX.out o) hcell (by simp)
            have hlook : ∀ (o : Obj) (nq : Nat), (Instr.lookup 38 (.map (some bm)) (.agg #[.int .i64 K, .bool false]) false).run Try.prog ((wr.alloc o).drewN nq) = .ok (.int .i64 (T i K false : Int)) ((wr.alloc o).drewN nq) :=
              fun o nq => look_tab (htab.kept (grown_drewN (HWX.out o) nq) (by simp)) (wf_of (by omega) (by omega))
            have HTAB := Lib.hid htab
            clear htab
            go_upto_region 15 with fail
            skip
            obtain ⟨sb, hsbe⟩ : ∃ sb, wr.heap.size = sb := ⟨_, rfl⟩
            obtain ⟨wx, hwx⟩ : ∃ wx, wr.alloc (.cells #[.int .i64 K, .bool false] 43) = wx := ⟨_, rfl⟩
            have HSB7 : Hid (u8.ownBlock ≠ some sb) := fun e => by have := (own_lt HO.out e).1; omega
            have HSX : Hid (wx.heap[sb]? = some (.cells #[.int .i64 K, .bool false] 43 (0, 0))) := by unfold Hid; rw [← hwx, ← hsbe]; exact heap_alloc_new _ _
            have HWRX : Hid (wr.grownBy wx none) := by unfold Hid; rw [← hwx]; exact HWX.out _
            have hcx' : wx.cell? ⟨cb, i, none⟩ = some (.map (some bm)) := grown_cell HWRX.out hcell (by simp)
            have hlook' : ∀ (nq : Nat), (Instr.lookup 38 (.map (some bm)) (.agg #[.int .i64 K, .bool false]) false).run Try.prog (wx.drewN nq) = .ok (.int .i64 (T i K false : Int)) (wx.drewN nq) := fun nq => by
              have := hlook (.cells #[.int .i64 K, .bool false] 43) nq
              rw [hwx] at this
              exact this
            simp only [hsbe] at hwx ⊢
            simp only [hwx]
            skip
            have HST2 : Hid (wx.heap[lb]? = some (.cells #[.int .i64 lk2, .bool false] 43 (0, 0))) := by unfold Hid; rw [HWRX.out.block lb (lt_of HST.out) (by simp)]; exact HST.out
            have HROW2 : Hid (wx.heap[gb]? = some (.cells #[.int .i64 low, .int .i64 high, .bool above, .int .i64 leap, .int .i64 classes] 23 (0, 0))) := by unfold Hid; rw [HWRX.out.block gb (lt_of HROW.out) (by simp)]; exact HROW.out
            have HT2 : Hid (TF wx lb cb n T) := HT.out.kept HWRX.out (fun j h => by cases h)
            have HG2 : Hid (w.grownBy wx none) := grown_trans HG.out HWRX.out
            have HO2 : Hid (wx.ownsRow (lb + 1) 3 1 u8 o2.length (o2.map (Value.int .i64))) := own_none HO.out HWRX.out
            have hsblt : sb < wx.heap.size := lt_of HSX.out
            have hlbsb : lb < sb := by rw [← hsbe]; exact lt_of HST.out
            have x0 := cell_of HSX.out 0
            have x1 := cell_of HSX.out 1
            have hm := Lib.hid (rfl : T i K false = T i K false)
            obtain ⟨m, hm⟩ : ∃ m, T i K false = m := ⟨_, rfl⟩
            have HM := Lib.hid hm
            rw [hm] at hlook'
            clear hm hwx HST HROW HT HG HO hcell hcx hlook hsbe s0 s1 r0 r1 r2 r3 r4 HWX HWRX
            by_cases hm0 : m = 0
            · subst hm0
              have HPF : Hid (P K = false) := by
                unfold Hid; rw [← HPK.out]; unfold okK; rw [show (decide (0 < i) && (K == lk2)) = false from by simp [HI00.out]]; rw [HM.out]; rfl
              go_quiet (fail)
              clear hlook' x0 x1 hcx'
              go_wp2_with fail
              refine ⟨⟨K + 1, false, o2, lk2, false, by omega, by omega, rfl, rfl, HO2.out, HST2.out, HT2.out, HROW2.out, grown_drewN HG2.out _, fun _ => ⟨rfl, rfl, rfl, fun k a b => ?_⟩, fun h => by cases h⟩, by simp only [intOf]; omega⟩
              by_cases hk : k = K
              · rw [hk]; exact HPF.out
              · exact HNO.out k a (by omega)
            · have hm1 : ((m : Int) == 0) = false := by rw [beq_eq_false_iff_ne]; omega
              go_quiet (fail)
              obtain ⟨wy, hwy⟩ : ∃ wy, wx.drewN nq = wy := ⟨_, rfl⟩
              have HSY : Hid (wy.heap[sb]? = some (.cells #[.int .i64 K, .bool false] 43 (0, 0))) := by unfold Hid; rw [← hwy]; exact HSX.out
              have HSTY : Hid (wy.heap[lb]? = some (.cells #[.int .i64 lk2, .bool false] 43 (0, 0))) := by unfold Hid; rw [← hwy]; exact HST2.out
              have HROWY : Hid (wy.heap[gb]? = some (.cells #[.int .i64 low, .int .i64 high, .bool above, .int .i64 leap, .int .i64 classes] 23 (0, 0))) := by unfold Hid; rw [← hwy]; exact HROW2.out
              have HTY : Hid (TF wy lb cb n T) := by unfold Hid; rw [← hwy]; exact HT2.out
              have HGY : Hid (w.grownBy wy none) := by unfold Hid; rw [← hwy]; exact grown_drewN HG2.out _
              have HOY : Hid (wy.ownsRow (lb + 1) 3 1 u8 o2.length (o2.map (Value.int .i64))) := by unfold Hid; rw [← hwy]; exact HO2.out
              have hsy : sb < wy.heap.size := lt_of HSY.out
              simp only [hwy]
              clear HSX HST2 HROW2 HT2 HG2 HO2 hlook' x0 x1 hcx' hwy hsblt
              have y1 := cell_of HSTY.out 1
              have HPT : Hid (P K = true) := by
                    unfold Hid; rw [← HPK.out]; unfold okK; rw [show (decide (0 < i) && (K == lk2)) = false from by simp [HI00.out]]; rw [HM.out]; simp [hm0, HI00.out]
              have HMY : Hid (∀ w', wy.grownBy w' none → wy.grownBy w' none) := fun _ h => h
              go_upto_region 20 with fail
              have hgz : Hid (wy.grownBy wy none) := grown_refl _ _
              have y0 := y1
              have r0 := y1
              have r1 := y1
              have r2 := y1
              have r3 := y1
              have r4 := y1
              have HSZ : Hid (wy.heap[sb]? = some (.cells #[.int .i64 K, .bool false] 43 (0, 0))) := by unfold Hid; rw [hgz.out.block sb (lt_of HSY.out) (by simp)]; exact HSY.out
              have HSTZ : Hid (wy.heap[lb]? = some (.cells #[.int .i64 lk2, .bool false] 43 (0, 0))) := by unfold Hid; rw [hgz.out.block lb (lt_of HSTY.out) (by simp)]; exact HSTY.out
              have HROWZ : Hid (wy.heap[gb]? = some (.cells #[.int .i64 low, .int .i64 high, .bool above, .int .i64 leap, .int .i64 classes] 23 (0, 0))) := by unfold Hid; rw [hgz.out.block gb (lt_of HROWY.out) (by simp)]; exact HROWY.out
              have HTZ : Hid (TF wy lb cb n T) := HTY.out.kept hgz.out (fun j h => by cases h)
              have HGZ : Hid (w.grownBy wy none) := grown_trans HGY.out hgz.out
              have HOZ : Hid (wy.ownsRow (lb + 1) 3 1 u8 o2.length (o2.map (Value.int .i64))) := own_none HOY.out hgz.out
              have hsz : sb < wy.heap.size := lt_of HSZ.out
              clear HSY HSTY HROWY HTY HGY HOY hgz y0 y1 r0 r1 r2 r3 r4 hsy
              go_wp2_with fail
              have hne : Nonempty (Lies sb K false) := ⟨⟨wy, HSZ.out⟩⟩
              have k0 : ∀ n : Lies sb K false, n.w.cell? ⟨sb, 0, none⟩ = some (.int .i64 K) := fun n => cell_of n.h 0
              have k1 : ∀ n : Lies sb K false, n.w.cell? ⟨sb, 1, none⟩ = some (.bool false) := fun n => cell_of n.h 1
              refine Mixed.wp_region_mixed (lies sb K false) (fun k => k == 2 || k == 3 || k == 6) (by kernel_rfl) (by kernel_rfl) ⟨⟨wy.drew, HSZ.out⟩, rfl⟩ ?_
              unfold lies
              refine Mixed.wpM_quiet rfl rfl rfl ?_; intro Kx hKx; go_big_quiet_op; go_big_quiet_on
              refine Mixed.wpM_quiet rfl rfl rfl ?_; intro Kx hKx; go_big_quiet_op; go_big_quiet_on
              refine Mixed.wpM_make rfl rfl (.slice (some ⟨wy.heap.size, 0, none⟩) 1 1) (wy.drew.alloc (.cells #[.int .i64 K] 3)) (by go_simp) (lies_of ((heap_alloc_old wy.drew _ hsz).trans HSZ.out)) ?_
              go_simp
              have HWZ7 : Hid (wy.grownBy (wy.alloc (.cells #[.int .i64 K] 3)).drew none) := grown_drew (grown_alloc (grown_refl _ _) _)
              have HO7 : Hid ((wy.alloc (.cells #[.int .i64 K] 3)).drew.ownsRow (lb + 1) 3 1 u8 o2.length (o2.map (Value.int .i64))) := own_none HOZ.out HWZ7.out
              have HOLB : Hid (∀ j, u8.ownBlock = some j → lb + 1 ≤ j) := fun j hj => (own_lt HO7.out hj).2
              have hols : o2.length ≤ 64 := by rw [HOL.out]; omega
              have HN7 := Lib.hid (cell_one_new wy (.int .i64 K) 3)
              refine wpM_append rfl rfl _ _ 24 rfl (lb + 1) 3 i0 (.int .i64 0) 8 Try.underlying24 hi hz0 hz1 hz2 rfl u8 o2.length (o2.map (Value.int .i64)) rfl HO7.out ⟨wy.heap.size, 0, none⟩ 1 1 [.int .i64 K] rfl rfl (fun j u h => HN7.out j u h) (by simp [Value.oneCell']) (by unfold maxLen; omega) (by omega) (by simp; omega) ?_
              intro v8 w8 hown8 hg8 hat8
              have HG78 : Hid ((wy.alloc (.cells #[.int .i64 K] 3)).drew.grownBy w8 u8.ownBlock) := hg8
              have hsb7 : u8.ownBlock ≠ some sb := HSB7.out
              have HS8 : Hid (w8.heap[sb]? = some (.cells #[.int .i64 K, .bool false] 43 (0, 0))) := by
                unfold Hid; rw [hg8.block sb (by simp; omega) (fun e => hsb7 e.symm), HWZ7.out.block sb hsz (by simp)]; exact HSZ.out
              refine ⟨lies_of HS8.out, ?_⟩
              go_simp
              have HO8 : Hid (w8.ownsRow (lb + 1) 3 1 v8 (o2.length + 1) ((o2 ++ [K]).map (Value.int .i64))) := by unfold Hid; rw [List.map_append]; exact hown8
              refine Mixed.wpM_quiet rfl rfl rfl ?_; intro Kx hKx; go_big_quiet_op; go_big_quiet_on
              refine Mixed.wpM_quiet rfl rfl rfl ?_; intro Kx hKx; go_big_quiet_op; go_big_quiet_on
              have hlbz : lb < (wy.alloc (.cells #[.int .i64 K] 3)).drew.heap.size := by simp; omega
              have HST8 : Hid (w8.heap[lb]? = some (.cells #[.int .i64 lk2, .bool false] 43 (0, 0))) := by
                unfold Hid; rw [HG78.out.block lb hlbz (fun e => by have := HOLB.out lb e.symm; omega), HWZ7.out.block lb (lt_of HSTZ.out) (by simp)]; exact HSTZ.out
              have c80 := cell_of HST8.out 0
              have c81 := cell_of HST8.out 1
              have f80 := free_of HST8.out 0
              have f81 := free_of HST8.out 1
              refine wpM_store rfl rfl ((w8.setCell ⟨lb, 0, none⟩ (.int .i64 K)).setCell ⟨lb, 1, none⟩ (.bool false)) (by go_simp) (lies_of (by rw [set_other (by simp; omega), set_other (by simp; omega)]; exact HS8.out)) ?_
              go_simp
              refine Mixed.wpM_quiet rfl rfl rfl ?_; intro Kx hKx; go_big_quiet_op; go_big_quiet_on
              refine Mixed.wpM_nil ?_
              intro nx hnx
              clear nx hnx k0 k1 hne c80 c81 f80 f81
              have HSTF : Hid (((w8.setCell ⟨lb, 0, none⟩ (.int .i64 K)).setCell ⟨lb, 1, none⟩ (.bool false)).heap[lb]? = some (.cells #[.int .i64 K, .bool false] 43 (0, 0))) := by
                unfold Hid; rw [set_self (set_self HST8.out _) _]; rfl
              have HGS : Hid (w8.grownBy ((w8.setCell ⟨lb, 0, none⟩ (.int .i64 K)).setCell ⟨lb, 1, none⟩ (.bool false)) (some lb)) := by
                unfold Hid; exact grown_set (p := ⟨lb, 1, none⟩) (grown_set (p := ⟨lb, 0, none⟩) (grown_refl w8 (some lb)) (.inl rfl) (.int .i64 K)) (.inl rfl) (.bool false)
              obtain ⟨w9, hw9⟩ : ∃ w9, (w8.setCell ⟨lb, 0, none⟩ (.int .i64 K)).setCell ⟨lb, 1, none⟩ (.bool false) = w9 := ⟨_, rfl⟩
              rw [hw9] at HSTF HGS ⊢
              have HOF : Hid (w9.ownsRow (lb + 1) 3 1 v8 (o2 ++ [K]).length ((o2 ++ [K]).map (Value.int .i64))) := by
                unfold Hid
                rw [List.length_append]
                exact HO8.out.kept HGS.out (.inr fun e => by have := (own_lt HO8.out e).2; omega)
              have HTF : Hid (TF w9 lb cb n T) := ((HTZ.out.kept HWZ7.out (fun j h => by cases h)).kept HG78.out (fun j h => by have := HOLB.out j h; omega)).kept HGS.out (fun j h => by cases h; omega)
              have HR7 : Hid ((wy.alloc (.cells #[.int .i64 K] 3)).drew.heap[gb]? = some (.cells #[.int .i64 low, .int .i64 high, .bool above, .int .i64 leap, .int .i64 classes] 23 (0, 0))) := kept_row HROWZ.out HGB.out HWZ7.out (fun j h => by cases h)
              have HR8 : Hid (w8.heap[gb]? = some (.cells #[.int .i64 low, .int .i64 high, .bool above, .int .i64 leap, .int .i64 classes] 23 (0, 0))) := kept_row HR7.out HGB.out HG78.out (fun j h => by have := HOLB.out j h; omega)
              have HROWF : Hid (w9.heap[gb]? = some (.cells #[.int .i64 low, .int .i64 high, .bool above, .int .i64 leap, .int .i64 classes] 23 (0, 0))) := kept_row HR8.out HGB.out HGS.out (fun j h => by cases h; omega)
              have HGF : Hid (w.grownBy w9 none) := grown_own (grown_own (grown_trans HGZ.out HWZ7.out) HG78.out (fun j h => by have := HOLB.out j h; have := HWL.out; unfold Hid at this; omega)) HGS.out (fun j h => by cases h; exact HWL.out)
              have HPK2 : Hid (pick T rr g i lk2 false = some K) := PF.out K hK0 hK2 HNO.out HPT.out
              have hl65 : (o2 ++ [K]).length ≤ 64 := by rw [List.length_append, HOL.out]; simp only [List.length_cons, List.length_nil]; omega
              have HL65 := Lib.hid hl65
              have HSV : Hid (false = (decide (0 < i) && (K == lk2))) := by unfold Hid; simp [HI00.out]
              clear hw9 hl65 hown8 hg8 hat8 hlbz hsb7
              go_wp2_with fail
              exact ⟨⟨K + 1, true, o2 ++ [K], K, false, by omega, by omega, rfl, rfl, HOF.out, HSTF.out, HTF.out, HROWF.out, HGF.out, fun h => (by cases h), fun _ => ⟨HL65.out, K, HPK2.out, rfl, rfl, HSV.out, hK0, hK2⟩⟩, by simp only [intOf]; omega⟩
          · have hdp : decide ((0 : Int) < (i : Int)) = true := by simp; omega
            obtain ⟨l0, l1⟩ := HI1.out hi0
            have hsb : wr.heap.size ≠ lb := by have := lt_of HST.out; omega
            obtain ⟨bm, hbm, hcell, htab⟩ := HT.out.2 i hin
            have hii : (i : Int) < (n1 : Int) := by omega
            have HWX : Hid (∀ o, wr.grownBy (wr.alloc o) none) := fun o => grown_alloc (grown_refl _ _) _
            have hcx : ∀ o, (wr.alloc o).cell? ⟨cb, i, none⟩ = some (.map (some bm)) := fun o => grown_cell (HWX.out o) hcell (by simp)
            have hlook : ∀ (o : Obj) (nq : Nat), (Instr.lookup 38 (.map (some bm)) (.agg #[.int .i64 K, .bool (K == lk2)]) false).run Try.prog ((wr.alloc o).drewN nq) = .ok (.int .i64 (T i K (K == lk2) : Int)) ((wr.alloc o).drewN nq) :=
              fun o nq => look_tab (htab.kept (grown_drewN (HWX.out o) nq) (by simp)) (wf_of (by omega) (by omega))
            have HTAB := Lib.hid htab
            clear htab
            go_upto_region 15 with fail
            obtain ⟨S, hS⟩ : ∃ S, (K == lk2) = S := ⟨_, rfl⟩
            obtain ⟨sb, hsbe⟩ : ∃ sb, wr.heap.size = sb := ⟨_, rfl⟩
            obtain ⟨wx, hwx⟩ : ∃ wx, wr.alloc (.cells #[.int .i64 K, .bool (K == lk2)] 43) = wx := ⟨_, rfl⟩
            have HSB7 : Hid (u8.ownBlock ≠ some sb) := fun e => by have := (own_lt HO.out e).1; omega
            have HSX : Hid (wx.heap[sb]? = some (.cells #[.int .i64 K, .bool S] 43 (0, 0))) := by unfold Hid; rw [← hwx, ← hsbe, ← hS]; exact heap_alloc_new _ _
            have HWRX : Hid (wr.grownBy wx none) := by unfold Hid; rw [← hwx]; exact HWX.out _
            have hcx' : wx.cell? ⟨cb, i, none⟩ = some (.map (some bm)) := grown_cell HWRX.out hcell (by simp)
            have hlook' : ∀ (nq : Nat), (Instr.lookup 38 (.map (some bm)) (.agg #[.int .i64 K, .bool S]) false).run Try.prog (wx.drewN nq) = .ok (.int .i64 (T i K S : Int)) (wx.drewN nq) := fun nq => by
              have := hlook (.cells #[.int .i64 K, .bool (K == lk2)] 43) nq
              rw [hwx, hS] at this
              exact this
            simp only [hsbe, hS] at hwx ⊢
            simp only [hwx]
            have HSS := Lib.hid hS
            have HST2 : Hid (wx.heap[lb]? = some (.cells #[.int .i64 lk2, .bool ls2] 43 (0, 0))) := by unfold Hid; rw [HWRX.out.block lb (lt_of HST.out) (by simp)]; exact HST.out
            have HROW2 : Hid (wx.heap[gb]? = some (.cells #[.int .i64 low, .int .i64 high, .bool above, .int .i64 leap, .int .i64 classes] 23 (0, 0))) := by unfold Hid; rw [HWRX.out.block gb (lt_of HROW.out) (by simp)]; exact HROW.out
            have HT2 : Hid (TF wx lb cb n T) := HT.out.kept HWRX.out (fun j h => by cases h)
            have HG2 : Hid (w.grownBy wx none) := grown_trans HG.out HWRX.out
            have HO2 : Hid (wx.ownsRow (lb + 1) 3 1 u8 o2.length (o2.map (Value.int .i64))) := own_none HO.out HWRX.out
            have hsblt : sb < wx.heap.size := lt_of HSX.out
            have hlbsb : lb < sb := by rw [← hsbe]; exact lt_of HST.out
            have x0 := cell_of HSX.out 0
            have x1 := cell_of HSX.out 1
            have hm := Lib.hid (rfl : T i K S = T i K S)
            obtain ⟨m, hm⟩ : ∃ m, T i K S = m := ⟨_, rfl⟩
            have HM := Lib.hid hm
            rw [hm] at hlook'
            clear hm hS hwx HST HROW HT HG HO hcell hcx hlook hsbe s0 s1 r0 r1 r2 r3 r4 HWX HWRX
            by_cases hm0 : m = 0
            · subst hm0
              have HPF : Hid (P K = false) := by
                unfold Hid; rw [← HPK.out]; unfold okK; rw [show (decide (0 < i) && (K == lk2)) = (K == lk2) from by simp [hi0]]; rw [HSS.out, HM.out]; rfl
              go_quiet (fail)
              clear hlook' x0 x1 hcx'
              go_wp2_with fail
              refine ⟨⟨K + 1, false, o2, lk2, ls2, by omega, by omega, rfl, rfl, HO2.out, HST2.out, HT2.out, HROW2.out, grown_drewN HG2.out _, fun _ => ⟨rfl, rfl, rfl, fun k a b => ?_⟩, fun h => by cases h⟩, by simp only [intOf]; omega⟩
              by_cases hk : k = K
              · rw [hk]; exact HPF.out
              · exact HNO.out k a (by omega)
            · have hm1 : ((m : Int) == 0) = false := by rw [beq_eq_false_iff_ne]; omega
              go_quiet (fail)
              obtain ⟨wy, hwy⟩ : ∃ wy, wx.drewN nq = wy := ⟨_, rfl⟩
              have HSY : Hid (wy.heap[sb]? = some (.cells #[.int .i64 K, .bool S] 43 (0, 0))) := by unfold Hid; rw [← hwy]; exact HSX.out
              have HSTY : Hid (wy.heap[lb]? = some (.cells #[.int .i64 lk2, .bool ls2] 43 (0, 0))) := by unfold Hid; rw [← hwy]; exact HST2.out
              have HROWY : Hid (wy.heap[gb]? = some (.cells #[.int .i64 low, .int .i64 high, .bool above, .int .i64 leap, .int .i64 classes] 23 (0, 0))) := by unfold Hid; rw [← hwy]; exact HROW2.out
              have HTY : Hid (TF wy lb cb n T) := by unfold Hid; rw [← hwy]; exact HT2.out
              have HGY : Hid (w.grownBy wy none) := by unfold Hid; rw [← hwy]; exact grown_drewN HG2.out _
              have HOY : Hid (wy.ownsRow (lb + 1) 3 1 u8 o2.length (o2.map (Value.int .i64))) := by unfold Hid; rw [← hwy]; exact HO2.out
              have hsy : sb < wy.heap.size := lt_of HSY.out
              simp only [hwy]
              clear HSX HST2 HROW2 HT2 HG2 HO2 hlook' x0 x1 hcx' hwy hsblt
              have y1 := cell_of HSTY.out 1
              have y0 := cell_of HSTY.out 0
              have r0 := cell_of HROWY.out 0
              have r1 := cell_of HROWY.out 1
              have r2 := cell_of HROWY.out 2
              have r3 := cell_of HROWY.out 3
              have r4 := cell_of HROWY.out 4
              cases ls2
              · have BC := Lib.hid (fun w' hg => BH.out i K lk2 0 false w' hin hi0 hg hKb ⟨l0, l1⟩ (by decide))
                obtain ⟨bz, hbz⟩ : ∃ bz, behindZ rr g i K lk2 false = bz := ⟨_, rfl⟩
                have HBZ := Lib.hid hbz
                rw [hbz] at BC
                clear hbz
                by_cases hb0 : bz = 0
                · subst hb0
                  have HPT : Hid (P K = true) := by
                    unfold Hid; rw [← HPK.out]; unfold okK; rw [show (decide (0 < i) && (K == lk2)) = (K == lk2) from by simp [hi0]]; rw [HSS.out, HM.out, HBZ.out]; simp [hm0]
                  go_upto_region 20 with (go_at_call 19; refine (BC.out _ HGY.out).mono ?_; rintro e wz ⟨rfl, hgz⟩)
                  have HSZ : Hid (wz.heap[sb]? = some (.cells #[.int .i64 K, .bool S] 43 (0, 0))) := by unfold Hid; rw [hgz.out.block sb (lt_of HSY.out) (by simp)]; exact HSY.out
                  have HSTZ : Hid (wz.heap[lb]? = some (.cells #[.int .i64 lk2, .bool false] 43 (0, 0))) := by unfold Hid; rw [hgz.out.block lb (lt_of HSTY.out) (by simp)]; exact HSTY.out
                  have HROWZ : Hid (wz.heap[gb]? = some (.cells #[.int .i64 low, .int .i64 high, .bool above, .int .i64 leap, .int .i64 classes] 23 (0, 0))) := by unfold Hid; rw [hgz.out.block gb (lt_of HROWY.out) (by simp)]; exact HROWY.out
                  have HTZ : Hid (TF wz lb cb n T) := HTY.out.kept hgz.out (fun j h => by cases h)
                  have HGZ : Hid (w.grownBy wz none) := grown_trans HGY.out hgz.out
                  have HOZ : Hid (wz.ownsRow (lb + 1) 3 1 u8 o2.length (o2.map (Value.int .i64))) := own_none HOY.out hgz.out
                  have hsz : sb < wz.heap.size := lt_of HSZ.out
                  clear HSY HSTY HROWY HTY HGY HOY BC hgz y0 y1 r0 r1 r2 r3 r4 hsy
                  go_wp2_with fail
                  have hne : Nonempty (Lies sb K S) := ⟨⟨wz, HSZ.out⟩⟩
                  have k0 : ∀ n : Lies sb K S, n.w.cell? ⟨sb, 0, none⟩ = some (.int .i64 K) := fun n => cell_of n.h 0
                  have k1 : ∀ n : Lies sb K S, n.w.cell? ⟨sb, 1, none⟩ = some (.bool S) := fun n => cell_of n.h 1
                  refine Mixed.wp_region_mixed (lies sb K S) (fun k => k == 2 || k == 3 || k == 6) (by kernel_rfl) (by kernel_rfl) ⟨⟨wz.drew, HSZ.out⟩, rfl⟩ ?_
                  unfold lies
                  refine Mixed.wpM_quiet rfl rfl rfl ?_; intro Kx hKx; go_big_quiet_op; go_big_quiet_on
                  refine Mixed.wpM_quiet rfl rfl rfl ?_; intro Kx hKx; go_big_quiet_op; go_big_quiet_on
                  refine Mixed.wpM_make rfl rfl (.slice (some ⟨wz.heap.size, 0, none⟩) 1 1) (wz.drew.alloc (.cells #[.int .i64 K] 3)) (by go_simp) (lies_of ((heap_alloc_old wz.drew _ hsz).trans HSZ.out)) ?_
                  go_simp
                  have HWZ7 : Hid (wz.grownBy (wz.alloc (.cells #[.int .i64 K] 3)).drew none) := grown_drew (grown_alloc (grown_refl _ _) _)
                  have HO7 : Hid ((wz.alloc (.cells #[.int .i64 K] 3)).drew.ownsRow (lb + 1) 3 1 u8 o2.length (o2.map (Value.int .i64))) := own_none HOZ.out HWZ7.out
                  have HOLB : Hid (∀ j, u8.ownBlock = some j → lb + 1 ≤ j) := fun j hj => (own_lt HO7.out hj).2
                  have hols : o2.length ≤ 64 := by rw [HOL.out]; omega
                  have HN7 := Lib.hid (cell_one_new wz (.int .i64 K) 3)
                  refine wpM_append rfl rfl _ _ 24 rfl (lb + 1) 3 i0 (.int .i64 0) 8 Try.underlying24 hi hz0 hz1 hz2 rfl u8 o2.length (o2.map (Value.int .i64)) rfl HO7.out ⟨wz.heap.size, 0, none⟩ 1 1 [.int .i64 K] rfl rfl (fun j u h => HN7.out j u h) (by simp [Value.oneCell']) (by unfold maxLen; omega) (by omega) (by simp; omega) ?_
                  intro v8 w8 hown8 hg8 hat8
                  have HG78 : Hid ((wz.alloc (.cells #[.int .i64 K] 3)).drew.grownBy w8 u8.ownBlock) := hg8
                  have hsb7 : u8.ownBlock ≠ some sb := HSB7.out
                  have HS8 : Hid (w8.heap[sb]? = some (.cells #[.int .i64 K, .bool S] 43 (0, 0))) := by
                    unfold Hid; rw [hg8.block sb (by simp; omega) (fun e => hsb7 e.symm), HWZ7.out.block sb hsz (by simp)]; exact HSZ.out
                  refine ⟨lies_of HS8.out, ?_⟩
                  go_simp
                  have HO8 : Hid (w8.ownsRow (lb + 1) 3 1 v8 (o2.length + 1) ((o2 ++ [K]).map (Value.int .i64))) := by unfold Hid; rw [List.map_append]; exact hown8
                  refine Mixed.wpM_quiet rfl rfl rfl ?_; intro Kx hKx; go_big_quiet_op; go_big_quiet_on
                  refine Mixed.wpM_quiet rfl rfl rfl ?_; intro Kx hKx; go_big_quiet_op; go_big_quiet_on
                  have hlbz : lb < (wz.alloc (.cells #[.int .i64 K] 3)).drew.heap.size := by simp; omega
                  have HST8 : Hid (w8.heap[lb]? = some (.cells #[.int .i64 lk2, .bool false] 43 (0, 0))) := by
                    unfold Hid; rw [HG78.out.block lb hlbz (fun e => by have := HOLB.out lb e.symm; omega), HWZ7.out.block lb (lt_of HSTZ.out) (by simp)]; exact HSTZ.out
                  have c80 := cell_of HST8.out 0
                  have c81 := cell_of HST8.out 1
                  have f80 := free_of HST8.out 0
                  have f81 := free_of HST8.out 1
                  refine wpM_store rfl rfl ((w8.setCell ⟨lb, 0, none⟩ (.int .i64 K)).setCell ⟨lb, 1, none⟩ (.bool S)) (by go_simp) (lies_of (by rw [set_other (by simp; omega), set_other (by simp; omega)]; exact HS8.out)) ?_
                  go_simp
                  refine Mixed.wpM_quiet rfl rfl rfl ?_; intro Kx hKx; go_big_quiet_op; go_big_quiet_on
                  refine Mixed.wpM_nil ?_
                  intro nx hnx
                  clear nx hnx k0 k1 hne c80 c81 f80 f81
                  have HSTF : Hid (((w8.setCell ⟨lb, 0, none⟩ (.int .i64 K)).setCell ⟨lb, 1, none⟩ (.bool S)).heap[lb]? = some (.cells #[.int .i64 K, .bool S] 43 (0, 0))) := by
                    unfold Hid; rw [set_self (set_self HST8.out _) _]; rfl
                  have HGS : Hid (w8.grownBy ((w8.setCell ⟨lb, 0, none⟩ (.int .i64 K)).setCell ⟨lb, 1, none⟩ (.bool S)) (some lb)) := by
                    unfold Hid; exact grown_set (p := ⟨lb, 1, none⟩) (grown_set (p := ⟨lb, 0, none⟩) (grown_refl w8 (some lb)) (.inl rfl) (.int .i64 K)) (.inl rfl) (.bool S)
                  obtain ⟨w9, hw9⟩ : ∃ w9, (w8.setCell ⟨lb, 0, none⟩ (.int .i64 K)).setCell ⟨lb, 1, none⟩ (.bool S) = w9 := ⟨_, rfl⟩
                  rw [hw9] at HSTF HGS ⊢
                  have HOF : Hid (w9.ownsRow (lb + 1) 3 1 v8 (o2 ++ [K]).length ((o2 ++ [K]).map (Value.int .i64))) := by
                    unfold Hid
                    rw [List.length_append]
                    exact HO8.out.kept HGS.out (.inr fun e => by have := (own_lt HO8.out e).2; omega)
                  have HTF : Hid (TF w9 lb cb n T) := ((HTZ.out.kept HWZ7.out (fun j h => by cases h)).kept HG78.out (fun j h => by have := HOLB.out j h; omega)).kept HGS.out (fun j h => by cases h; omega)
                  have HR7 : Hid ((wz.alloc (.cells #[.int .i64 K] 3)).drew.heap[gb]? = some (.cells #[.int .i64 low, .int .i64 high, .bool above, .int .i64 leap, .int .i64 classes] 23 (0, 0))) := kept_row HROWZ.out HGB.out HWZ7.out (fun j h => by cases h)
                  have HR8 : Hid (w8.heap[gb]? = some (.cells #[.int .i64 low, .int .i64 high, .bool above, .int .i64 leap, .int .i64 classes] 23 (0, 0))) := kept_row HR7.out HGB.out HG78.out (fun j h => by have := HOLB.out j h; omega)
                  have HROWF : Hid (w9.heap[gb]? = some (.cells #[.int .i64 low, .int .i64 high, .bool above, .int .i64 leap, .int .i64 classes] 23 (0, 0))) := kept_row HR8.out HGB.out HGS.out (fun j h => by cases h; omega)
                  have HGF : Hid (w.grownBy w9 none) := grown_own (grown_own (grown_trans HGZ.out HWZ7.out) HG78.out (fun j h => by have := HOLB.out j h; have := HWL.out; unfold Hid at this; omega)) HGS.out (fun j h => by cases h; exact HWL.out)
                  have HPK2 : Hid (pick T rr g i lk2 false = some K) := PF.out K hK0 hK2 HNO.out HPT.out
                  have hl65 : (o2 ++ [K]).length ≤ 64 := by rw [List.length_append, HOL.out]; simp only [List.length_cons, List.length_nil]; omega
                  have HL65 := Lib.hid hl65
                  have HSV : Hid (S = (decide (0 < i) && (K == lk2))) := by unfold Hid; rw [← HSS.out]; simp [hi0]
                  clear hw9 hl65 hown8 hg8 hat8 hlbz hsb7
                  go_wp2_with fail
                  exact ⟨⟨K + 1, true, o2 ++ [K], K, S, by omega, by omega, rfl, rfl, HOF.out, HSTF.out, HTF.out, HROWF.out, HGF.out, fun h => (by cases h), fun _ => ⟨HL65.out, K, HPK2.out, rfl, rfl, HSV.out, hK0, hK2⟩⟩, by simp only [intOf]; omega⟩
                · have hb1 : (bz != 0) = true := by simpa using hb0
                  have HPF : Hid (P K = false) := by
                    unfold Hid; rw [← HPK.out]; unfold okK; rw [show (decide (0 < i) && (K == lk2)) = (K == lk2) from by simp [hi0]]; rw [HSS.out, HM.out, HBZ.out]; simp [hb0]; omega
                  go_wp2_with (go_at_call 19; refine (BC.out _ HGY.out).mono ?_; rintro e wz ⟨rfl, hgz⟩)
                  refine ⟨⟨K + 1, false, o2, lk2, false, by omega, by omega, rfl, rfl, own_none HOY.out hgz.out, by unfold Hid; rw [hgz.out.block lb (lt_of HSTY.out) (by simp)]; exact HSTY.out, HTY.out.kept hgz.out (fun j h => by cases h), by unfold Hid; rw [hgz.out.block gb (lt_of HROWY.out) (by simp)]; exact HROWY.out, grown_trans HGY.out hgz.out, fun _ => ⟨rfl, rfl, rfl, fun k a b => ?_⟩, fun h => by cases h⟩, by simp only [intOf]; omega⟩
                  by_cases hk : k = K
                  · rw [hk]; exact HPF.out
                  · exact HNO.out k a (by omega)
              · have BC := Lib.hid (fun w' hg => BH.out i K lk2 1 true w' hin hi0 hg hKb ⟨l0, l1⟩ (by decide))
                obtain ⟨bz, hbz⟩ : ∃ bz, behindZ rr g i K lk2 true = bz := ⟨_, rfl⟩
                have HBZ := Lib.hid hbz
                rw [hbz] at BC
                clear hbz
                by_cases hb0 : bz = 0
                · subst hb0
                  have HPT : Hid (P K = true) := by
                    unfold Hid; rw [← HPK.out]; unfold okK; rw [show (decide (0 < i) && (K == lk2)) = (K == lk2) from by simp [hi0]]; rw [HSS.out, HM.out, HBZ.out]; simp [hm0]
                  go_upto_region 20 with (go_at_call 19; refine (BC.out _ HGY.out).mono ?_; rintro e wz ⟨rfl, hgz⟩)
                  have HSZ : Hid (wz.heap[sb]? = some (.cells #[.int .i64 K, .bool S] 43 (0, 0))) := by unfold Hid; rw [hgz.out.block sb (lt_of HSY.out) (by simp)]; exact HSY.out
                  have HSTZ : Hid (wz.heap[lb]? = some (.cells #[.int .i64 lk2, .bool true] 43 (0, 0))) := by unfold Hid; rw [hgz.out.block lb (lt_of HSTY.out) (by simp)]; exact HSTY.out
                  have HROWZ : Hid (wz.heap[gb]? = some (.cells #[.int .i64 low, .int .i64 high, .bool above, .int .i64 leap, .int .i64 classes] 23 (0, 0))) := by unfold Hid; rw [hgz.out.block gb (lt_of HROWY.out) (by simp)]; exact HROWY.out
                  have HTZ : Hid (TF wz lb cb n T) := HTY.out.kept hgz.out (fun j h => by cases h)
                  have HGZ : Hid (w.grownBy wz none) := grown_trans HGY.out hgz.out
                  have HOZ : Hid (wz.ownsRow (lb + 1) 3 1 u8 o2.length (o2.map (Value.int .i64))) := own_none HOY.out hgz.out
                  have hsz : sb < wz.heap.size := lt_of HSZ.out
                  clear HSY HSTY HROWY HTY HGY HOY BC hgz y0 y1 r0 r1 r2 r3 r4 hsy
                  go_wp2_with fail
                  have hne : Nonempty (Lies sb K S) := ⟨⟨wz, HSZ.out⟩⟩
                  have k0 : ∀ n : Lies sb K S, n.w.cell? ⟨sb, 0, none⟩ = some (.int .i64 K) := fun n => cell_of n.h 0
                  have k1 : ∀ n : Lies sb K S, n.w.cell? ⟨sb, 1, none⟩ = some (.bool S) := fun n => cell_of n.h 1
                  refine Mixed.wp_region_mixed (lies sb K S) (fun k => k == 2 || k == 3 || k == 6) (by kernel_rfl) (by kernel_rfl) ⟨⟨wz.drew, HSZ.out⟩, rfl⟩ ?_
                  unfold lies
                  refine Mixed.wpM_quiet rfl rfl rfl ?_; intro Kx hKx; go_big_quiet_op; go_big_quiet_on
                  refine Mixed.wpM_quiet rfl rfl rfl ?_; intro Kx hKx; go_big_quiet_op; go_big_quiet_on
                  refine Mixed.wpM_make rfl rfl (.slice (some ⟨wz.heap.size, 0, none⟩) 1 1) (wz.drew.alloc (.cells #[.int .i64 K] 3)) (by go_simp) (lies_of ((heap_alloc_old wz.drew _ hsz).trans HSZ.out)) ?_
                  go_simp
                  have HWZ7 : Hid (wz.grownBy (wz.alloc (.cells #[.int .i64 K] 3)).drew none) := grown_drew (grown_alloc (grown_refl _ _) _)
                  have HO7 : Hid ((wz.alloc (.cells #[.int .i64 K] 3)).drew.ownsRow (lb + 1) 3 1 u8 o2.length (o2.map (Value.int .i64))) := own_none HOZ.out HWZ7.out
                  have HOLB : Hid (∀ j, u8.ownBlock = some j → lb + 1 ≤ j) := fun j hj => (own_lt HO7.out hj).2
                  have hols : o2.length ≤ 64 := by rw [HOL.out]; omega
                  have HN7 := Lib.hid (cell_one_new wz (.int .i64 K) 3)
                  refine wpM_append rfl rfl _ _ 24 rfl (lb + 1) 3 i0 (.int .i64 0) 8 Try.underlying24 hi hz0 hz1 hz2 rfl u8 o2.length (o2.map (Value.int .i64)) rfl HO7.out ⟨wz.heap.size, 0, none⟩ 1 1 [.int .i64 K] rfl rfl (fun j u h => HN7.out j u h) (by simp [Value.oneCell']) (by unfold maxLen; omega) (by omega) (by simp; omega) ?_
                  intro v8 w8 hown8 hg8 hat8
                  have HG78 : Hid ((wz.alloc (.cells #[.int .i64 K] 3)).drew.grownBy w8 u8.ownBlock) := hg8
                  have hsb7 : u8.ownBlock ≠ some sb := HSB7.out
                  have HS8 : Hid (w8.heap[sb]? = some (.cells #[.int .i64 K, .bool S] 43 (0, 0))) := by
                    unfold Hid; rw [hg8.block sb (by simp; omega) (fun e => hsb7 e.symm), HWZ7.out.block sb hsz (by simp)]; exact HSZ.out
                  refine ⟨lies_of HS8.out, ?_⟩
                  go_simp
                  have HO8 : Hid (w8.ownsRow (lb + 1) 3 1 v8 (o2.length + 1) ((o2 ++ [K]).map (Value.int .i64))) := by unfold Hid; rw [List.map_append]; exact hown8
                  refine Mixed.wpM_quiet rfl rfl rfl ?_; intro Kx hKx; go_big_quiet_op; go_big_quiet_on
                  refine Mixed.wpM_quiet rfl rfl rfl ?_; intro Kx hKx; go_big_quiet_op; go_big_quiet_on
                  have hlbz : lb < (wz.alloc (.cells #[.int .i64 K] 3)).drew.heap.size := by simp; omega
                  have HST8 : Hid (w8.heap[lb]? = some (.cells #[.int .i64 lk2, .bool true] 43 (0, 0))) := by
                    unfold Hid; rw [HG78.out.block lb hlbz (fun e => by have := HOLB.out lb e.symm; omega), HWZ7.out.block lb (lt_of HSTZ.out) (by simp)]; exact HSTZ.out
                  have c80 := cell_of HST8.out 0
                  have c81 := cell_of HST8.out 1
                  have f80 := free_of HST8.out 0
                  have f81 := free_of HST8.out 1
                  refine wpM_store rfl rfl ((w8.setCell ⟨lb, 0, none⟩ (.int .i64 K)).setCell ⟨lb, 1, none⟩ (.bool S)) (by go_simp) (lies_of (by rw [set_other (by simp; omega), set_other (by simp; omega)]; exact HS8.out)) ?_
                  go_simp
                  refine Mixed.wpM_quiet rfl rfl rfl ?_; intro Kx hKx; go_big_quiet_op; go_big_quiet_on
                  refine Mixed.wpM_nil ?_
                  intro nx hnx
                  clear nx hnx k0 k1 hne c80 c81 f80 f81
                  have HSTF : Hid (((w8.setCell ⟨lb, 0, none⟩ (.int .i64 K)).setCell ⟨lb, 1, none⟩ (.bool S)).heap[lb]? = some (.cells #[.int .i64 K, .bool S] 43 (0, 0))) := by
                    unfold Hid; rw [set_self (set_self HST8.out _) _]; rfl
                  have HGS : Hid (w8.grownBy ((w8.setCell ⟨lb, 0, none⟩ (.int .i64 K)).setCell ⟨lb, 1, none⟩ (.bool S)) (some lb)) := by
                    unfold Hid; exact grown_set (p := ⟨lb, 1, none⟩) (grown_set (p := ⟨lb, 0, none⟩) (grown_refl w8 (some lb)) (.inl rfl) (.int .i64 K)) (.inl rfl) (.bool S)
                  obtain ⟨w9, hw9⟩ : ∃ w9, (w8.setCell ⟨lb, 0, none⟩ (.int .i64 K)).setCell ⟨lb, 1, none⟩ (.bool S) = w9 := ⟨_, rfl⟩
                  rw [hw9] at HSTF HGS ⊢
                  have HOF : Hid (w9.ownsRow (lb + 1) 3 1 v8 (o2 ++ [K]).length ((o2 ++ [K]).map (Value.int .i64))) := by
                    unfold Hid
                    rw [List.length_append]
                    exact HO8.out.kept HGS.out (.inr fun e => by have := (own_lt HO8.out e).2; omega)
                  have HTF : Hid (TF w9 lb cb n T) := ((HTZ.out.kept HWZ7.out (fun j h => by cases h)).kept HG78.out (fun j h => by have := HOLB.out j h; omega)).kept HGS.out (fun j h => by cases h; omega)
                  have HR7 : Hid ((wz.alloc (.cells #[.int .i64 K] 3)).drew.heap[gb]? = some (.cells #[.int .i64 low, .int .i64 high, .bool above, .int .i64 leap, .int .i64 classes] 23 (0, 0))) := kept_row HROWZ.out HGB.out HWZ7.out (fun j h => by cases h)
                  have HR8 : Hid (w8.heap[gb]? = some (.cells #[.int .i64 low, .int .i64 high, .bool above, .int .i64 leap, .int .i64 classes] 23 (0, 0))) := kept_row HR7.out HGB.out HG78.out (fun j h => by have := HOLB.out j h; omega)
                  have HROWF : Hid (w9.heap[gb]? = some (.cells #[.int .i64 low, .int .i64 high, .bool above, .int .i64 leap, .int .i64 classes] 23 (0, 0))) := kept_row HR8.out HGB.out HGS.out (fun j h => by cases h; omega)
                  have HGF : Hid (w.grownBy w9 none) := grown_own (grown_own (grown_trans HGZ.out HWZ7.out) HG78.out (fun j h => by have := HOLB.out j h; have := HWL.out; unfold Hid at this; omega)) HGS.out (fun j h => by cases h; exact HWL.out)
                  have HPK2 : Hid (pick T rr g i lk2 true = some K) := PF.out K hK0 hK2 HNO.out HPT.out
                  have hl65 : (o2 ++ [K]).length ≤ 64 := by rw [List.length_append, HOL.out]; simp only [List.length_cons, List.length_nil]; omega
                  have HL65 := Lib.hid hl65
                  have HSV : Hid (S = (decide (0 < i) && (K == lk2))) := by unfold Hid; rw [← HSS.out]; simp [hi0]
                  clear hw9 hl65 hown8 hg8 hat8 hlbz hsb7
                  go_wp2_with fail
                  exact ⟨⟨K + 1, true, o2 ++ [K], K, S, by omega, by omega, rfl, rfl, HOF.out, HSTF.out, HTF.out, HROWF.out, HGF.out, fun h => (by cases h), fun _ => ⟨HL65.out, K, HPK2.out, rfl, rfl, HSV.out, hK0, hK2⟩⟩, by simp only [intOf]; omega⟩
                · have hb1 : (bz != 0) = true := by simpa using hb0
                  have HPF : Hid (P K = false) := by
                    unfold Hid; rw [← HPK.out]; unfold okK; rw [show (decide (0 < i) && (K == lk2)) = (K == lk2) from by simp [hi0]]; rw [HSS.out, HM.out, HBZ.out]; simp [hb0]; omega
                  go_wp2_with (go_at_call 19; refine (BC.out _ HGY.out).mono ?_; rintro e wz ⟨rfl, hgz⟩)
                  refine ⟨⟨K + 1, false, o2, lk2, true, by omega, by omega, rfl, rfl, own_none HOY.out hgz.out, by unfold Hid; rw [hgz.out.block lb (lt_of HSTY.out) (by simp)]; exact HSTY.out, HTY.out.kept hgz.out (fun j h => by cases h), by unfold Hid; rw [hgz.out.block gb (lt_of HROWY.out) (by simp)]; exact HROWY.out, grown_trans HGY.out hgz.out, fun _ => ⟨rfl, rfl, rfl, fun k a b => ?_⟩, fun h => by cases h⟩, by simp only [intOf]; omega⟩
                  by_cases hk : k = K
                  · rw [hk]; exact HPF.out
                  · exact HNO.out k a (by omega)
        · obtain ⟨h64, k0, hpick, rfl, rfl, rfl, hk0, hk1⟩ := HF1.out rfl
          have HPS := Lib.hid hpick
          clear HF0 HF1 hpick
          have HNX : Hid (FC = (findFrom T rr g (n1 - (i + 1)) (i + 1) lk2 (decide (0 < i) && (lk2 == lk))).map ((out ++ [lk2]) ++ ·)) := by
            unfold Hid
            rw [HF.out, show n1 - i = (n1 - (i + 1)) + 1 from by omega]
            simp only [findFrom, HPS.out, Option.map_map]
            congr 1
            funext l
            simp
          have hol : (out ++ [lk2]).length = i + 1 := by rw [List.length_append, HOL.out]; rfl
          have HOLN := Lib.hid hol
          obtain ⟨ls3, hls3⟩ : ∃ x, (decide (0 < i) && (lk2 == lk)) = x := ⟨_, rfl⟩
          rw [hls3] at HST HNX
          have HLS : Hid (i + 1 = 0 → ls3 = false) := fun h => absurd h (by omega)
          have hrange : Hid (0 < i + 1 → 0 ≤ lk2 ∧ lk2 ≤ 127) := fun _ => by omega
          clear hls3 hol
          by_cases hKe : K = high + 1
          · subst hKe
            go_wp2_with fail
            exact ⟨⟨i + 1, out ++ [lk2], lk2, ls3, by omega, rfl, HOLN.out, HOLN.out ▸ HO.out, HNX.out, HST.out, HT.out, HROW.out, HG.out, HLS.out, hrange.out⟩, by simp only [intOf]; omega⟩
          · have hK2 : K ≤ high := by omega
            go_wp2_with fail
            exact ⟨⟨i + 1, out ++ [lk2], lk2, ls3, by omega, rfl, HOLN.out, HOLN.out ▸ HO.out, HNX.out, HST.out, HT.out, HROW.out, HG.out, HLS.out, hrange.out⟩, by simp only [intOf]; omega⟩
  · have HX : Hid (findE r g = wrongR r g) := by unfold Hid findE; rw [if_neg h0]
    have HY : Hid (findL r g = []) := by unfold Hid findL; rw [if_neg h0]
    obtain ⟨FE, hFE⟩ : ∃ x, findE r g = x := ⟨_, rfl⟩
    obtain ⟨FL, hFL⟩ : ∃ x, findL r g = x := ⟨_, rfl⟩
    obtain ⟨R, hR⟩ : ∃ R, wrongR r g = R := ⟨_, rfl⟩
    rw [hFE, hR] at HX
    rw [hFL] at HY
    rw [hR] at W1 h0
    rw [hFE, hFL]
    obtain ⟨n, hn⟩ : ∃ n, g.length = n := ⟨_, rfl⟩
    rw [hn] at W1 ⊢
    have h0' : (R != 0) = true := by simpa using h0
    clear hv hn hFE hFL hR
    obtain ⟨low, high, above, leap, classes⟩ := r
    simp only at W1 ⊢
    have HG0 : Hid (w.grownBy (w.alloc (.cells #[.int .i64 low, .int .i64 high, .bool above, .int .i64 leap, .int .i64 classes] 23)) none) := grown_alloc (grown_refl _ _) _
    go_enter Try.func9, Try.ntmps9
    go_wp2_with (go_at_call 10; refine (W1.out _ HG0.out).mono ?_; rintro e w1 ⟨rfl, hg1⟩)
    go_ret2
    exact ⟨_, by rw [HX.out]; rfl, .inr ⟨_, _, rfl, HY.out⟩, grown_trans HG0.out hg1.out⟩
end Go.Proofs.Ythdohdllpaijhaa.RFind
