/- Break, the reference's. -/
import Derived.Test.YtlinbocnhmkoeaaSFwd
import Derived.Test.YtlinbocnhmkoeaaSLine
import Derived.Test.YtlinbocnhmkoeaaSQuiet
import Derived.Test.YtlinbocnhmkoeaaApp
import Derived.Deep.RegionWith
namespace Go.Proofs.Ytlinbocnhmkoeaa.SRBreak
open Go Go.RowKit Go.Proofs.Ytlinbocnhmkoeaa.SMod Go.Proofs.Ytlinbocnhmkoeaa.SBest Go.Proofs.Ytlinbocnhmkoeaa.SFwd Go.Proofs.Ytlinbocnhmkoeaa.SCost Go.Proofs.Ytlinbocnhmkoeaa.SWrong Go.Proofs.Ytlinbocnhmkoeaa.SSum Go.Proofs.Ytlinbocnhmkoeaa.SLaw Go.Proofs.Ytlinbocnhmkoeaa.SBetter Go.Proofs.Ytlinbocnhmkoeaa.SQuiet Go.Proofs.Ytlinbocnhmkoeaa.SLine Go.Proofs.Ytlinbocnhmkoeaa.Opn Go.Proofs.Ytlinbocnhmkoeaa.Hp Go.Proofs.Ytlinbocnhmkoeaa.Rd
set_option linter.unusedVariables false

theorem info23 : (Try.prog.info? 23).map (fun i => (i.zero, i.size, i.bytes)) = some (some (.slice none 0 0), 1, 24) := by kernel_rfl
theorem info3 : (Try.prog.info? 3).map (fun i => (i.zero, i.size, i.bytes)) = some (some (.int .i64 0), 1, 8) := by kernel_rfl
theorem info4 : (Try.prog.info? 4).map (fun i => (i.zero, i.size, i.bytes)) = some (some (.bool false), 1, 1) := by kernel_rfl

def intV (n : Nat) : Value := .int .i64 n

def Row (w : World) (g : Nat) (e : TypeId) (n : Nat) (f : Nat → Value) : Prop := ∃ C : Array Value, w.heap[g]? = some (.cells C e (0, 0)) ∧ ∀ i, i ≤ n → C[i]? = some (f i)

theorem Row.keep {w w' : World} {g n : Nat} {e : TypeId} {f : Nat → Value} (h : Row w g e n f) (hh : w'.heap[g]? = w.heap[g]?) : Row w' g e n f := by
  obtain ⟨C, h1, h2⟩ := h
  exact ⟨C, by rw [hh]; exact h1, h2⟩
theorem Row.lt {w : World} {g n : Nat} {e : TypeId} {f : Nat → Value} (h : Row w g e n f) : g < w.heap.size := by obtain ⟨C, h1, _⟩ := h; exact lt_of h1
theorem Row.at {w : World} {g n i : Nat} {e : TypeId} {f : Nat → Value} (h : Row w g e n f) (hi : i ≤ n) : w.cell? ⟨g, i, none⟩ = some (f i) ∧ w.frozen? ⟨g, i, none⟩ = false := by
  obtain ⟨C, h1, h2⟩ := h
  exact ⟨by rw [cell_of h1]; exact h2 i hi, free_of h1 i⟩
theorem Row.set {w : World} {g n i : Nat} {e : TypeId} {f : Nat → Value} (h : Row w g e n f) (hi : i ≤ n) (v : Value) : Row (w.setCell ⟨g, i, none⟩ v) g e n (fun k => if k = i then v else f k) := by
  obtain ⟨C, h1, h2⟩ := h
  refine ⟨_, set_self h1 v, fun k hk => ?_⟩
  have hC : i < C.size := by
    rcases Nat.lt_or_ge i C.size with h | h
    · exact h
    · have := h2 i hi; rw [Array.getElem?_eq_none h] at this; cases this
  rw [Array.getElem?_setIfInBounds]
  by_cases hki : k = i
  · subst hki; simp [hC]
  · rw [if_neg (fun h => hki h.symm)]; simp only [if_neg hki]; exact h2 k hk
theorem Row.made {w w1 : World} {n : Nat} {e : TypeId} {z : Value} (hz : z.cells = #[z]) (h : w1.ownsRow w.heap.size e 1 (.slice (some ⟨w.heap.size, 0, none⟩) (n + 1) (n + 1)) (n + 1) (madeCells z.cells ((n + 1) * 1)).toList) : Row w1 w.heap.size e n fun _ => z := by
  rw [hz, Nat.mul_one, madeCells_one] at h
  refine ⟨_, new_of_made h, fun i hi => ?_⟩
  rw [List.getElem?_toArray, List.getElem?_replicate, if_pos (by omega)]
theorem Row.congr {w : World} {g n : Nat} {e : TypeId} {f f' : Nat → Value} (h : Row w g e n f) (hf : ∀ i, f i = f' i) : Row w g e n f' := by
  obtain ⟨C, h1, h2⟩ := h
  exact ⟨C, h1, fun i hi => by rw [h2 i hi, hf]⟩

/-- The three tables. -/
structure Tabs (w : World) (gw gc gb n base : Nat) (S : Nat → Pf) (V : Nat → Value) : Prop where
  ways : Row w gw 23 n V
  costs : Row w gc 3 n fun i => .int .i64 (S i).cost
  there : Row w gb 4 n fun i => .bool (S i).there
  own : ∀ i, i ≤ n → w.ownsRow base 3 1 (V i) (S i).way.length ((S i).way.map intV)

theorem own_keep {w w' : World} {base : Nat} {v : Value} {n : Nat} {xs : List Value} (h : w.ownsRow base 3 1 v n xs) (hh : ∀ k, base ≤ k → k < w.heap.size → w'.heap[k]? = w.heap[k]?) : w'.ownsRow base 3 1 v n xs := by
  refine ⟨h.1, ?_⟩
  rcases h.2 with h2 | ⟨g, cap, cur, h1, h2, h3, h4⟩
  · exact .inl h2
  · exact .inr ⟨g, cap, cur, h1, h2, by rw [hh g h2 (lt_of h3)]; exact h3, h4⟩

theorem Tabs.grown {w w' : World} {gw gc gb n base : Nat} {S : Nat → Pf} {V : Nat → Value} (h : Tabs w gw gc gb n base S V) (hg : w.grownBy w' none) : Tabs w' gw gc gb n base S V :=
  ⟨h.ways.keep (hg.block _ h.ways.lt (by simp)), h.costs.keep (hg.block _ h.costs.lt (by simp)), h.there.keep (hg.block _ h.there.lt (by simp)), fun i hi => own_keep (h.own i hi) fun k _ hk => hg.block k hk (by simp)⟩

theorem own_open {w : World} {base n : Nat} {v : Value} {xs : List Value} (h : w.ownsRow base 3 1 v n xs) : ∃ ao c, v = .slice ao n c ∧ xs.length = n ∧ ∀ j u, xs[j]? = some u → ∃ b off, ao = some ⟨b, off, none⟩ ∧ w.cell? ⟨b, off + j, none⟩ = some u := by
  have hl : xs.length = n := by have := h.1; simpa using this
  rcases owns_cells h with ⟨rfl, rfl, rfl⟩ | ⟨g, cap, rfl, _, _, _, hc⟩
  · exact ⟨none, 0, rfl, rfl, fun j u hu => by simp at hu⟩
  · exact ⟨some ⟨g, 0, none⟩, cap, rfl, hl, fun j u hu => ⟨g, 0, rfl, by rw [Nat.zero_add]; exact hc j u hu⟩⟩

theorem one_int {l : List Nat} : ∀ u ∈ l.map intV, u.oneCell' = true := by
  intro u hu
  obtain ⟨n, _, rfl⟩ := List.mem_map.1 hu
  rfl

theorem ils_own {w : World} {base m : Nat} {v : Value} {R : List Nat} (h : w.ownsRow base 3 1 v m (R.map intV)) : Ils w v (toI R) := owns_sl h (by simp [toI]) fun i u y hu hy => by
  unfold toI at hy
  rw [List.getElem?_map] at hu hy
  cases hh : R[i]? with
  | none => rw [hh] at hu; cases hu
  | some z =>
    rw [hh] at hu hy
    simp only [Option.map_some, Option.some.injEq] at hu hy
    subst hu hy
    rfl

/-- What is appended to lies behind all that was there. -/
theorem grown_own {w w1 w2 : World} {v : Value} (h : w.grownBy w1 none) (hg : w1.grownBy w2 v.ownBlock) (hv : ∀ g, v.ownBlock = some g → w.heap.size ≤ g) : w.grownBy w2 none := by
  cases hb : v.ownBlock with
  | none => rw [hb] at hg; exact grown_trans h hg
  | some g => rw [hb] at hg; exact grown_from h hg (.inl (hv g hb))

theorem append_copy {w : World} {ops : Array Oper} {rest : List Oper} {o : Oper} {a : Act} {Q : Exit → Act → World → Prop} (hgd : o.guard = none) (s x : Operand)
    (ho : o.op = .call { callee := .builtin .append, args := #[s, x], argTypes := #[23, 23] }) (base : Nat) (vf : Value) (m : Nat) (l : List Nat) (hs : a.eval s = .slice (some ⟨w.heap.size, 0, none⟩) 0 0) (hx : a.eval x = vf)
    (hown : w.ownsRow base 3 1 vf m (l.map intV)) (hm : m ≤ 1099511627776) (hbase : base ≤ w.heap.size)
    (h : ∀ v' w', Hid (w'.ownsRow base 3 1 v' m (l.map intV)) → Hid (w.grownBy w' none) → Hid (∀ g, v'.ownBlock = some g → w.heap.size ≤ g) → wpList Try.prog ops Q rest (a.put o.dst v') w') :
    wpList Try.prog ops Q (o :: rest) a (w.alloc (.cells #[] 3)) := by
  obtain ⟨i0, hi, hz0, hz1, hz2⟩ := info_parts info3
  obtain ⟨ao, c, rfl, hl, hc⟩ := own_open (hown.alloc (.cells #[] 3))
  have hemp : (w.alloc (.cells #[] 3)).ownsRow base 3 1 (.slice (some ⟨w.heap.size, 0, none⟩) 0 0) 0 [] := ⟨rfl, .inr ⟨w.heap.size, 0, #[], rfl, hbase, heap_alloc_new _ _, Nat.le_refl _, Nat.zero_le _, rfl, rfl⟩⟩
  refine App.append_in hgd s x 23 ho base 3 i0 (.int .i64 0) 8 Try.underlying23 hi hz0 hz1 hz2 rfl _ 0 [] hs hemp ao m c (l.map intV) hx hl hc one_int (by unfold maxLen; omega) (by omega) (by simp; omega) fun v' w' h1 h2 h3 => ?_
  rw [Nat.zero_add, List.nil_append] at h1
  refine h v' w' h1 (grown_own (v := .slice (some ⟨w.heap.size, 0, none⟩) 0 0) (grown_alloc (grown_refl _ _) _) h2 (fun g hg => Nat.le_of_eq (by simpa [Value.ownBlock] using hg))) fun g hg => ?_
  rcases h3 with h3 | h3
  · rw [h3] at hg
    have : w.heap.size = g := by simpa [Value.ownBlock] using hg
    omega
  · rw [h3] at hg
    have : (w.alloc (.cells #[] 3)).heap.size = g := by simpa using hg
    have h4 : (w.alloc (.cells #[] 3)).heap.size = w.heap.size + 1 := by simp
    omega

theorem append_last {w0 w : World} {ops : Array Oper} {rest : List Oper} {o : Oper} {a : Act} {Q : Exit → Act → World → Prop} (hgd : o.guard = none) (s x : Operand)
    (ho : o.op = .call { callee := .builtin .append, args := #[s, x], argTypes := #[23, 23] }) (base : Nat) (v : Value) (m : Nat) (l : List Nat) (t : Nat) (hs : a.eval s = v) (hx : a.eval x = .slice (some ⟨w.heap.size, 0, none⟩) 1 1)
    (hown : w.ownsRow base 3 1 v m (l.map intV)) (hm : m ≤ 1099511627776) (hbase : base ≤ w.heap.size) (hg0 : w0.grownBy w none) (hv : ∀ g, v.ownBlock = some g → w0.heap.size ≤ g)
    (h : ∀ v' w', Hid (w'.ownsRow base 3 1 v' (m + 1) ((l ++ [t]).map intV)) → Hid (w0.grownBy w' none) → wpList Try.prog ops Q rest (a.put o.dst v') w') :
    wpList Try.prog ops Q (o :: rest) a (w.alloc (.cells #[.int .i64 (t : Int)] 3)) := by
  obtain ⟨i0, hi, hz0, hz1, hz2⟩ := info_parts info3
  refine App.append_in hgd s x 23 ho base 3 i0 (.int .i64 0) 8 Try.underlying23 hi hz0 hz1 hz2 rfl _ m (l.map intV) hs (hown.alloc _) (some ⟨w.heap.size, 0, none⟩) 1 1 [intV t] hx rfl (fun j u hu => ?_) (fun u hu => by simp at hu; subst hu; rfl) (by unfold maxLen; omega) (by omega) (by simp; omega) fun v' w' h1 h2 h3 => ?_
  · match j with
    | 0 =>
      obtain rfl : intV t = u := by simpa using hu
      exact ⟨w.heap.size, 0, rfl, by rw [cell_of (heap_alloc_new _ _)]; rfl⟩
    | j + 1 => simp at hu
  · rw [← List.map_singleton, ← List.map_append] at h1
    exact h v' w' h1 (grown_own (grown_trans hg0 (grown_alloc (grown_refl _ _) _)) h2 hv)

def upP (S : Nat → Pf) (i : Nat) (s : Pf) : Nat → Pf := fun k => if k = i then s else S k

theorem Tabs.set {w : World} {gw gc gb n base i : Nat} {S : Nat → Pf} {V : Nat → Value} (h : Tabs w gw gc gb n base S V) (hi : i ≤ n) (h1 : gw < gc) (h2 : gc < gb) (h3 : gb < base) (s : Pf) (hs : s.there = true) (v : Value)
    (hv : w.ownsRow base 3 1 v s.way.length (s.way.map intV)) :
    Tabs (((w.setCell ⟨gb, i, none⟩ (.bool true)).setCell ⟨gc, i, none⟩ (.int .i64 s.cost)).setCell ⟨gw, i, none⟩ v) gw gc gb n base (upP S i s) (fun k => if k = i then v else V k) := by
  have hk : ∀ k, base ≤ k → (((w.setCell ⟨gb, i, none⟩ (.bool true)).setCell ⟨gc, i, none⟩ (.int .i64 s.cost)).setCell ⟨gw, i, none⟩ v).heap[k]? = w.heap[k]? := by
    intro k hk
    rw [set_other (by show k ≠ gw; omega), set_other (by show k ≠ gc; omega), set_other (by show k ≠ gb; omega)]
  refine ⟨?_, ?_, ?_, fun k hkn => ?_⟩
  · refine (Row.set (h.ways.keep ?_) hi v)
    rw [set_other (by show gw ≠ gc; omega), set_other (by show gw ≠ gb; omega)]
  · refine ((Row.set (h.costs.keep ?_) hi (.int .i64 s.cost)).keep (set_other (by show gc ≠ gw; omega) _)).congr fun k => ?_
    · rw [set_other (by show gc ≠ gb; omega)]
    · unfold upP; split <;> rfl
  · refine (((h.there.set hi (.bool true)).keep (set_other (by show gb ≠ gc; omega) _)).keep (set_other (by show gb ≠ gw; omega) _)).congr fun k => ?_
    unfold upP
    split
    · rw [hs]
    · rfl
  · by_cases hki : k = i
    · subst hki
      simp only [upP, if_true]
      exact own_keep hv fun k hk' _ => hk k hk'
    · simp only [upP, if_neg hki]
      exact own_keep (h.own k hkn) fun k hk' _ => hk k hk'

set_option maxHeartbeats 4000000 in
set_option maxRecDepth 100000 in
theorem rbreak_good (ao : Option Addr) (cap : Nat) (l : List Bx) (W : Int) (w : World) (hv : Bxs w (.slice ao l.length cap) l) (hcap : l.length ≤ cap) (hok : wrongS l W = 0) :
    Calls Try.prog 9 #[.slice ao l.length cap, .int .i64 W] w fun e w' => Hid (w.grownBy w' none) ∧ (((∀ r, pathC l W 0 l.length r = none) ∧ e = .returned (.tuple #[.slice none 0 0, .int .i64 0, .int .i64 6])) ∨
      ∃ v c R, Best l W 0 l.length c R ∧ Ils w' v (toI R) ∧ e = .returned (.tuple #[v, .int .i64 c, .int .i64 0])) := by
  obtain ⟨ho1, ho2, ho3, ho4⟩ := wrongS_ok hok
  have A1 := Lib.hid (ref_wrong ao cap l W w hv)
  have L1 := Lib.hid (fun w1 (hg : w.grownBy w1 none) i j (h1 : i < j) (h2 : j ≤ l.length) => ref_line ao cap l W i j w1 (Slc.grown hv hg fun _ _ h => h) hcap ho4 ho1 ⟨ho2, ho3⟩ h1 h2)
  obtain ⟨n, hn⟩ : ∃ n, l.length = n := ⟨_, rfl⟩
  have HN := Lib.hid hn
  simp only [hok, hn] at A1 L1
  rw [hn] at hv ho1 ⊢
  have HO := Lib.hid ho4
  clear hn hv hok ho4 hcap
  obtain ⟨i0, hi, hz0, hz1, hz2⟩ := info_parts info23
  obtain ⟨j0, ji, jz0, jz1, jz2⟩ := info_parts info3
  obtain ⟨k0, ki, kz0, kz1, kz2⟩ := info_parts info4
  obtain ⟨n1, hn1⟩ : ∃ n1, n + 1 = n1 := ⟨_, rfl⟩
  have hn2 : (n : Int) + 1 = (n1 : Int) := by omega
  have hn3 : 0 < n1 := by omega
  go_enter Try.func9, Try.ntmps9
  go_upto_region 5 with (first
    | (go_at_call 7; refine (A1.out).mono ?_; rintro e w1 ⟨rfl, hg1⟩; have HG1 := Lib.hid hg1.out; clear hg1)
    | (at_make; refine wpList_make_full _ rfl _ _ 45 rfl w1.heap.size 23 i0 (.slice none 0 0) 1 Try.underlying45 hi hz0 hz1 _ _ _ _ n1 rfl rfl rfl rfl (by rw [hz2]; omega) (by unfold maxLen; omega) (Nat.le_refl _) ?_; intro w2 hown2 hg2; have HOW2 := Lib.hid hown2; have HG2 := Lib.hid (grown_trans HG1.out hg2); clear hown2 hg2))
  go_upto_region 6 with (at_make; refine wpList_make_full _ rfl _ _ 23 rfl w2.heap.size 3 j0 (.int .i64 0) 1 Try.underlying23 ji jz0 jz1 _ _ _ _ n1 rfl rfl rfl rfl (by rw [jz2]; omega) (by unfold maxLen; omega) (Nat.le_refl _) ?_; intro w3 hown3 hg3; have HOW3 := Lib.hid hown3; have HG23 := Lib.hid hg3; have HG3 := Lib.hid (grown_trans HG2.out hg3); clear hown3 hg3)
  go_upto_region 7 with (at_make; refine wpList_make_full _ rfl _ _ 46 rfl w3.heap.size 4 k0 (.bool false) 1 Try.underlying46 ki kz0 kz1 _ _ _ _ n1 rfl rfl rfl rfl (by rw [kz2]; omega) (by unfold maxLen; omega) (Nat.le_refl _) ?_; intro w4 hown4 hg4; have HOW4 := Lib.hid hown4; have HG34 := Lib.hid hg4; have HG4 := Lib.hid (grown_trans HG3.out hg4); clear hown4 hg4)
  subst hn1
  have r1 : Row w2 w1.heap.size 23 n fun _ => .slice none 0 0 := Row.made rfl HOW2.out
  have r2 : Row w3 w2.heap.size 3 n fun _ => .int .i64 0 := Row.made rfl HOW3.out
  have r3 : Row w4 w3.heap.size 4 n fun _ => .bool false := Row.made rfl HOW4.out
  have hlt1 := r1.lt
  have hlt2 := r2.lt
  have hlt3 := r3.lt
  have r2' := r2.keep (HG34.out.block _ hlt2 (by simp))
  have r1' := (r1.keep (HG23.out.block _ hlt1 (by simp)))
  have r1'' := r1'.keep (HG34.out.block _ r1'.lt (by simp))
  have HT0 : Hid (Tabs (w4.setCell ⟨w3.heap.size, 0, none⟩ (.bool true)) w1.heap.size w2.heap.size w3.heap.size n w4.heap.size (fun k => if k = 0 then ⟨true, 0, []⟩ else noPf) (fun _ => .slice none 0 0)) := by
    refine ⟨r1''.keep (set_other (by show w1.heap.size ≠ w3.heap.size; omega) _), (r2'.keep (set_other (by show w2.heap.size ≠ w3.heap.size; omega) _)).congr fun k => ?_, (r3.set (Nat.zero_le _) (.bool true)).congr fun k => ?_, fun k hk => ?_⟩
    · split <;> rfl
    · split <;> rfl
    · refine ⟨?_, .inl ⟨rfl, ?_⟩⟩
      · split <;> rfl
      · split <;> rfl
  have hsz : w.heap.size ≤ w1.heap.size := HG1.out.size
  have HG5 : Hid (w.grownBy (w4.setCell ⟨w3.heap.size, 0, none⟩ (.bool true)) none) := grown_set HG4.out (.inr (by show w.heap.size ≤ w3.heap.size; omega)) _
  have hz0 := (r3.at (Nat.zero_le _))
  obtain ⟨z0, z1⟩ := hz0
  obtain ⟨gw, hgw⟩ : ∃ g, w1.heap.size = g := ⟨_, rfl⟩
  obtain ⟨gc, hgc⟩ : ∃ g, w2.heap.size = g := ⟨_, rfl⟩
  obtain ⟨gb, hgb⟩ : ∃ g, w3.heap.size = g := ⟨_, rfl⟩
  obtain ⟨base, hbase⟩ : ∃ g, w4.heap.size = g := ⟨_, rfl⟩
  obtain ⟨n1, hn1⟩ : ∃ n1, n + 1 = n1 := ⟨_, rfl⟩
  have HN1 := Lib.hid hn1
  rw [hgw, hgc, hgb, hbase] at HT0
  rw [hgb] at HG5 z0 z1 hlt3
  rw [hgw] at hsz hlt1
  rw [hgc] at hlt1 hlt2
  rw [hgb] at hlt2
  rw [hbase] at hlt3
  simp only [hgw, hgc, hgb, hn1]
  rw [hn1] at hn3
  clear r1 r2 r3 r2' r1' r1'' HOW2 HOW3 HOW4 HG2 HG3 HG23 HG34 HG4 HG1 hgw hgc hgb hn1 hn2 hi hz1 hz2 ji jz0 jz1 jz2 ki kz0 kz1 kz2
  go_upto_region 8 with fail
  obtain ⟨w5, hw5⟩ : ∃ w5, w4.setCell ⟨gb, 0, none⟩ (.bool true) = w5 := ⟨_, rfl⟩
  have HB5 : Hid (base ≤ w5.heap.size) := by unfold Hid; rw [← hw5, size_set]; omega
  rw [hw5] at HT0 HG5 ⊢
  clear hw5 z0 z1 hbase
  go_wp2_with fail
  go_loopw [11] (fun p wr => ∃ (t : Nat) (S : Nat → Pf) (V : Nat → Value), 1 ≤ t ∧ t ≤ n + 1 ∧ p = .int .i64 t ∧ Hid (Tabs wr gw gc gb n base S V) ∧ Hid (∀ k, k < t → PRes l W k (S k)) ∧ Hid (∀ k, t ≤ k → S k = noPf) ∧ Hid (base ≤ wr.heap.size) ∧ Hid (w.grownBy wr none)) (fun p _ => n + 1 - (intOf p).toNat)
  case atStart => exact ⟨1, _, _, Nat.le_refl _, by omega, rfl, HT0, fun k hk => by
                    obtain rfl : k = 0 := by omega
                    exact pres_zero, fun k hk => if_neg (by omega), HB5, HG5⟩
  case round =>
    clear HT0 HG5 HB5
    obtain ⟨t, S, V, ht1, ht2, rfl, HT, HP, HZ, HBz, HG⟩ := hrel
    by_cases htn : t ≤ n
    · have htn' : (t : Int) ≤ n := by omega
      go_wp2_with fail
      go_loopw [12] (fun p wq => ∃ (f : Nat) (S' : Nat → Pf) (V' : Nat → Value) (c : Int), f ≤ t ∧ p = .int .i64 c ∧ c = (f : Int) - 1 ∧ Hid (Tabs wq gw gc gb n base S' V') ∧ Hid (∀ k, k ≠ t → S' k = S k) ∧ Hid (PUp l W t f (S' t)) ∧ Hid (base ≤ wq.heap.size) ∧ Hid (w.grownBy wq none)) (fun p _ => (intOf p + 1).toNat)
      case atStart => exact ⟨t, S, V, (t : Int) - 1, Nat.le_refl _, rfl, rfl, HT, fun k _ => rfl, by unfold Hid; rw [HZ.out t (Nat.le_refl _)]; exact pup_start, HBz, HG⟩
      case round =>
        clear HT HG HBz
        obtain ⟨f, S', V', c, hft, rfl, hc, HT, HSM, HU, HBz, HG⟩ := hrel
        by_cases hf0 : 0 < f
        · obtain ⟨f, rfl⟩ : ∃ f', f = f' + 1 := ⟨f - 1, by omega⟩
          obtain rfl : c = (f : Int) := by omega
          clear hc hf0
          have HQ : Hid (PRes l W f (S' f)) := by unfold Hid; rw [HSM.out f (by omega)]; exact HP.out f (by omega)
          have hfn1 : f < n1 := by have := HN1.out; omega
          have htn1 : t < n1 := by have := HN1.out; omega
          obtain ⟨e0, e1⟩ := HT.out.there.at (i := f) (by omega)
          cases hth : (S' f).there with
          | false =>
            have HU2 : Hid (PUp l W t f (S' t)) := pup_none HU.out HQ.out hth
            rw [hth] at e0
            clear HU HQ hth
            go_wp2_with fail
            go_roundw
            case rel => exact ⟨f, S', V', (f : Int) - 1, by omega, rfl, rfl, HT, HSM, HU2, HBz, HG⟩
            case measure => simp [intOf]
          | true =>
            rw [hth] at e0
            have A2 := Lib.hid (L1.out wr HG.out f t (by omega) (by omega))
            have hlb := fun x => line_bound (c := x) (i := f) (j := t) HO.out (by rw [HN.out]; exact ho1) ⟨ho2, ho3⟩ (by omega) (by rw [HN.out]; omega)
            cases hl : line l W f t with
            | none =>
              have HU2 : Hid (PUp l W t f (S' t)) := pup_skip HU.out fun _ _ _ => hl
              rw [hl, show costV none = .tuple #[.int .i64 0, .bool false] from rfl] at A2
              clear HU HQ hth hlb hl
              go_wp2_with (go_at_call 17; refine (A2.out).mono ?_; rintro e w6 ⟨rfl, hg6⟩; have HG6 := Lib.hid (grown_trans HG.out hg6.out); have HT6 := Lib.hid (HT.out.grown hg6.out); have HB6 : Hid (base ≤ w6.heap.size) := Nat.le_trans HBz.out hg6.out.size; clear hg6)
              go_roundw
              case rel => exact ⟨f, S', V', (f : Int) - 1, by omega, rfl, rfl, HT6, HSM, HU2, HB6, HG6⟩
              case measure => simp [intOf]
            | some x =>
              obtain ⟨y1, y2⟩ := hlb x hl
              obtain ⟨q1, q2, q3⟩ := pres_bound HO.out (by rw [HN.out]; exact ho1) ⟨ho2, ho3⟩ (by rw [HN.out]; omega) HQ.out
              obtain ⟨s1, s2, s3⟩ := pup_bound HO.out (by rw [HN.out]; exact ho1) ⟨ho2, ho3⟩ (by rw [HN.out]; omega) HU.out
              have HU2 := Lib.hid (pup_more HU.out (by omega) HQ.out hth hl)
              rw [hl, show costV (some x) = .tuple #[.int .i64 x, .bool true] from rfl] at A2
              clear HU HQ hth hlb hl
              go_upto_region 17 with (go_at_call 17; refine (A2.out).mono ?_; rintro e w6 ⟨rfl, hg6⟩; have HG6 := Lib.hid (grown_trans HG.out hg6.out); have HT6 := Lib.hid (HT.out.grown hg6.out); have HB6 : Hid (base ≤ w6.heap.size) := Nat.le_trans HBz.out hg6.out.size; clear hg6)
              clear e0 e1 A2 HT HG
              obtain ⟨e0, e1⟩ := HT6.out.ways.at (i := f) (by omega)
              obtain ⟨vf, hvf⟩ : ∃ v, V' f = v := ⟨_, rfl⟩
              have hof := HT6.out.own f (by omega)
              rw [hvf] at e0 hof
              have HOF := Lib.hid hof
              have f0 : (w6.alloc (.cells #[] 3)).cell? ⟨gw, f, none⟩ = some vf := (grown_alloc (grown_refl w6 none) _).cell e0 (by simp)
              have HBS := HB6
              clear hof hvf e0 e1
              go_wp2_with (first
                | (at_builtin; refine append_copy rfl _ _ rfl base vf _ (S' f).way rfl rfl HOF.out (by omega) HBS.out ?_; intro v7 w7 HO7 HG7 HN7; have HBS7 : Hid (base ≤ w7.heap.size) := Nat.le_trans HBS.out HG7.out.size)
                | (at_builtin; refine append_last rfl _ _ rfl base v7 _ (S' f).way t rfl rfl HO7.out (by omega) HBS7.out HG7.out HN7.out ?_; intro v8 w8 HO8 HG8))
              have HT8 := Lib.hid (HT6.out.grown HG8.out)
              have HB8 : Hid (base ≤ w8.heap.size) := Nat.le_trans HBS.out HG8.out.size
              have HGw8 := Lib.hid (grown_trans HG6.out HG8.out)
              clear HT6 HG6 HB6 HBS HOF HO7 HG7 HN7 HBS7 f0 HG8
              obtain ⟨cb, hcb⟩ : ∃ b, decide ((S' t).there = false ∨ better ((S' f).cost + x) ((S' f).way ++ [t]) (S' t).cost (S' t).way = true) = b := ⟨_, rfl⟩
              have HU3 : Hid (PUp l W t f (if cb = true then ⟨true, (S' f).cost + x, (S' f).way ++ [t]⟩ else S' t)) := by
                have h1 := HU2.out
                unfold Hid
                rw [← hcb]
                simpa using h1
              clear HU2
              obtain ⟨ao8, c8, hv8, _, _⟩ := own_open HO8.out
              obtain ⟨aot, ct, hvt, _, _⟩ := own_open (HT8.out.own t (by omega))
              obtain ⟨e0, _⟩ := HT8.out.there.at (i := t) (by omega)
              obtain ⟨e1, _⟩ := HT8.out.costs.at (i := f) (by omega)
              obtain ⟨e2, _⟩ := HT8.out.costs.at (i := t) (by omega)
              obtain ⟨e3, _⟩ := HT8.out.ways.at (i := t) (by omega)
              have hi8 := ils_own HO8.out
              have hit := ils_own (HT8.out.own t (by omega))
              rw [hvt] at e3 hit
              subst hv8
              have hlen8 : (S' f).way.length + 1 = ((S' f).way ++ [t]).length := by simp
              simp only [hlen8] at hi8 ⊢
              have hbq := fun n => better_quiet ((S' f).cost + x) (S' t).cost ao8 aot c8 ct ((S' f).way ++ [t]) (S' t).way (w8.drewN n) (hi8.grown (grown_drewN (grown_refl _ _) n)) (hit.grown (grown_drewN (grown_refl _ _) n)) (by simp; omega) (by omega)
              have HBQ := Lib.hid hbq
              clear hbq hi8 hit hvt
              have hb := HO8
              obtain ⟨cf, hcf⟩ : ∃ c, (S' f).cost = c := ⟨_, rfl⟩
              rw [hcf] at q1 q2 e1 hcb HU3 HBQ
              have HCF := Lib.hid hcf
              clear hcf
              generalize (S' f).way ++ [t] = wy at *
              obtain ⟨st, hst⟩ : ∃ s, S' t = s := ⟨_, rfl⟩
              rw [hst] at e0 e2 e3 hcb HU3 HBQ s1 s2 s3
              have HST := Lib.hid hst
              clear hst
              obtain ⟨bt, ctt, wt⟩ := st
              simp only at e0 e2 e3 hcb HBQ s1 s2 s3
              go_cut [12, 94] from 44 to 110 (fun p c wx => p = .int .i64 f ∧ c = .bool cb ∧ Hid (∃ k, wx = w8.drewN k))
              case first =>
                clear HU3 HSM HP HZ HGw8 HBz HO HN HN1 A1 L1 HST hb HB8
                cases bt with
                | false =>
                  obtain rfl : cb = true := by rw [← hcb]; simp
                  clear HBQ hcb
                  go_upto_region 18 with fail
                  go_region
                  go_wp2_with fail
                  go_meet
                  exact ⟨rfl, rfl, 1, rfl⟩
                | true =>
                  have hb2 : better (cf + x) wy ctt wt = cb := by rw [← hcb]; simp
                  rw [hb2] at HBQ
                  clear hcb hb2
                  go_upto_region 18 with fail
                  go_quiet ((go_at_call 14; exact (HBQ.out _).mono fun e w' h => ⟨h.1, let ⟨k, hk⟩ := h.2; ⟨_, hk.trans (World.drewN_drewN ..)⟩⟩))
                  go_wp2_with fail
                  go_meet
                  exact ⟨rfl, rfl, _, rfl⟩
              case rest =>
                obtain ⟨rfl, rfl, HD⟩ := hcut
                have HGD := Lib.hid (gq HD)
                have HT9 := Lib.hid (HT8.out.grown HGD.out)
                have HG9 := Lib.hid (grown_trans HGw8.out HGD.out)
                have HB9 : Hid (base ≤ wc.heap.size) := Nat.le_trans HB8.out HGD.out.size
                have hb9 : wc.ownsRow base 3 1 (.slice ao8 wy.length c8) wy.length (wy.map intV) := by
                  rw [hlen8] at hb
                  exact own_keep hb.out fun k _ hk => HGD.out.block k hk (by simp)
                have HO9 := Lib.hid hb9
                clear HD HGD HT8 HGw8 HB8 hb hb9 e0 e1 e2 e3 HBQ HO8 hlen8 hcb
                cases cb with
                | false =>
                  have HU4 : Hid (PUp l W t f (S' t)) := by
                    have h1 := HU3.out
                    rw [if_neg (by simp)] at h1
                    rw [HST.out]; exact h1
                  clear HU3
                  go_wp2_with fail
                  go_roundw
                  case rel => exact ⟨f, S', V', (f : Int) - 1, by omega, rfl, rfl, HT9, HSM, HU4, HB9, HG9⟩
                  case measure => simp [intOf]
                | true =>
                  have HU4 : Hid (PUp l W t f ((upP S' t ⟨true, cf + x, wy⟩) t)) := by
                    have h1 := HU3.out
                    rw [if_pos rfl] at h1
                    unfold Hid upP
                    rw [if_pos rfl]; exact h1
                  have HT10 := Lib.hid (HT9.out.set (i := t) (by omega) hlt1 hlt2 hlt3 ⟨true, cf + x, wy⟩ rfl (.slice ao8 wy.length c8) HO9.out)
                  have HSM10 : Hid (∀ k, k ≠ t → (upP S' t ⟨true, cf + x, wy⟩) k = S k) := fun k hk => by
                    unfold upP; rw [if_neg hk]; exact HSM.out k hk
                  have HG10 : Hid (w.grownBy (((wc.setCell ⟨gb, t, none⟩ (.bool true)).setCell ⟨gc, t, none⟩ (.int .i64 (cf + x))).setCell ⟨gw, t, none⟩ (.slice ao8 wy.length c8)) none) :=
                    grown_set (grown_set (grown_set HG9.out (.inr (by show w.heap.size ≤ gb; omega)) _) (.inr (by show w.heap.size ≤ gc; omega)) _) (.inr hsz) _
                  have HB10 : Hid (base ≤ (((wc.setCell ⟨gb, t, none⟩ (.bool true)).setCell ⟨gc, t, none⟩ (.int .i64 (cf + x))).setCell ⟨gw, t, none⟩ (.slice ao8 wy.length c8)).heap.size) := by
                    unfold Hid
                    rw [size_set, size_set, size_set]
                    exact HB9.out
                  obtain ⟨e0, g0⟩ := HT9.out.there.at (i := t) (by omega)
                  obtain ⟨e1, g1⟩ := HT9.out.costs.at (i := t) (by omega)
                  obtain ⟨e2, g2⟩ := HT9.out.ways.at (i := t) (by omega)
                  obtain ⟨e3, _⟩ := HT9.out.costs.at (i := f) (by omega)
                  rw [HCF.out] at e3
                  go_upto_region 13 with fail
                  obtain ⟨w10, hw10⟩ : ∃ w10, ((wc.setCell ⟨gb, t, none⟩ (.bool true)).setCell ⟨gc, t, none⟩ (.int .i64 (cf + x))).setCell ⟨gw, t, none⟩ (.slice ao8 wy.length c8) = w10 := ⟨_, rfl⟩
                  simp only [hw10] at HT10
                  rw [hw10] at HG10 HB10 ⊢
                  clear hw10 e0 e1 e2 e3 g0 g1 g2 HT9 HG9 HB9 HO9 HU3
                  go_wp2_with fail
                  go_roundw
                  case rel => exact ⟨f, _, _, (f : Int) - 1, by omega, rfl, rfl, HT10, HSM10, HU4, HB10, HG10⟩
                  case measure => simp [intOf]
        · obtain rfl : f = 0 := by omega
          obtain rfl : c = -1 := by omega
          have HRES : Hid (PRes l W t (S' t)) := pup_end HU.out (by omega)
          clear HU hc hf0
          go_wp2_with fail
          go_roundw
          case rel => exact ⟨t + 1, S', V', by omega, by omega, by go_num, HT, fun k hk => by
                        by_cases hkt : k = t
                        · subst hkt; exact HRES.out
                        · rw [HSM.out k hkt]; exact HP.out k (by omega), fun k hk => by rw [HSM.out k (by omega)]; exact HZ.out k (by omega), HBz, HG⟩
          case measure => simp [intOf]; omega
    · obtain rfl : t = n + 1 := by omega
      have htn' : ¬ ((n + 1 : Nat) : Int) ≤ n := by omega
      have HPn := Lib.hid (HP.out n (by omega))
      have hnn1 : n < n1 := by have := HN1.out; omega
      obtain ⟨e0, _⟩ := HT.out.there.at (i := n) (Nat.le_refl _)
      obtain ⟨e1, _⟩ := HT.out.costs.at (i := n) (Nat.le_refl _)
      obtain ⟨e2, _⟩ := HT.out.ways.at (i := n) (Nat.le_refl _)
      have HOn := Lib.hid (HT.out.own n (Nat.le_refl _))
      obtain ⟨s, hs⟩ : ∃ s, S n = s := ⟨_, rfl⟩
      obtain ⟨v, hvn⟩ : ∃ v, V n = v := ⟨_, rfl⟩
      rw [hs] at e0 e1 HPn HOn
      rw [hvn] at e2 HOn
      clear hs hvn HT HP HZ
      rcases HPn.out with ⟨rfl, hno⟩ | ⟨h1, h2⟩
      · have HNO := Lib.hid hno
        simp only [noPf] at e0
        clear hno HPn e1 e2
        go_wp2_with fail
        go_ret3
        exact ⟨HG, .inl ⟨HN.out ▸ HNO.out, rfl⟩⟩
      · obtain ⟨bt, cc, R⟩ := s
        simp only at h1 h2 e0 e1 HOn
        subst h1
        have HB := Lib.hid h2
        clear h2 HPn
        go_upto_region 22 with fail
        have hil := ils_own HOn.out
        have HIL := Lib.hid (hil.grown (grown_drew (grown_refl wr none)))
        clear hil
        go_region
        go_wp2_with fail
        go_ret3
        exact ⟨grown_drew HG.out, .inr ⟨v, cc, R, HN.out ▸ HB.out, HIL.out, rfl⟩⟩

theorem rbreak_bad (ao : Option Addr) (cap : Nat) (l : List Bx) (W : Int) (w : World) (hv : Bxs w (.slice ao l.length cap) l) (hok : wrongS l W ≠ 0) :
    Calls Try.prog 9 #[.slice ao l.length cap, .int .i64 W] w fun e w' => e = .returned (.tuple #[.slice none 0 0, .int .i64 0, .int .i64 (wrongS l W)]) ∧ Hid (w.grownBy w' none) := by
  have A1 := Lib.hid (ref_wrong ao cap l W w hv)
  obtain ⟨r, hr⟩ : ∃ r, wrongS l W = r := ⟨_, rfl⟩
  rw [hr] at A1 hok ⊢
  have h2 : (r != 0) = true := by simpa using hok
  obtain ⟨n, hn⟩ : ∃ n, l.length = n := ⟨_, rfl⟩
  rw [hn] at A1 ⊢
  clear hr hv hn
  go_enter Try.func9, Try.ntmps9
  go_wp2_with (go_at_call 7; refine (A1.out).mono ?_; rintro e w1 ⟨rfl, hg1⟩; have HG1 := Lib.hid hg1.out; clear hg1)
  go_ret3
  exact ⟨rfl, HG1⟩

end Go.Proofs.Ytlinbocnhmkoeaa.SRBreak
