/- What is played in pieces: plain; turns and events in rows of the call's own. -/
import Derived.Test.YthmcicmebaibgaaTLit
import Derived.Test.YthmcicmebaibgaaTPl
namespace Go.Proofs.Ythmcicmebaibgaa.TWnd
open Go Go.RowKit Go.Proofs.Ythmcicmebaibgaa.WMod Go.Proofs.Ythmcicmebaibgaa.TMod Go.Proofs.Ythmcicmebaibgaa.TRead Go.Proofs.Ythmcicmebaibgaa.TSz Go.Proofs.Ythmcicmebaibgaa.TEv Go.Proofs.Ythmcicmebaibgaa.TWin Go.Proofs.Ythmcicmebaibgaa.TNext Go.Proofs.Ythmcicmebaibgaa.TPlr Go.Proofs.Ythmcicmebaibgaa.TPm Go.Proofs.Ythmcicmebaibgaa.TPly Go.Proofs.Ythmcicmebaibgaa.TLit Go.Proofs.Ythmcicmebaibgaa.Opn Go.Proofs.Ythmcicmebaibgaa.Hp Go.Proofs.Ythmcicmebaibgaa.Rd Go.Proofs.Ythmcicmebaibgaa.TWWrong
set_option linter.unusedVariables false

def tnOf (c : Int) : Tn := ⟨-1, c⟩

theorem win_len_mono {l : List Ev} {a b c d : Int} (h1 : c ≤ a) (h2 : b ≤ d) : (win a b l).length ≤ (win c d l).length := by
  induction l with
  | nil => exact Nat.le_refl _
  | cons e r ih =>
    unfold win at *
    by_cases q : inW a b e = true
    · have q2 : inW c d e = true := by unfold inW at *; simp at *; omega
      rw [List.filter_cons_of_pos q, List.filter_cons_of_pos q2]
      simp only [List.length_cons]
      omega
    · rw [List.filter_cons_of_neg q]
      by_cases q2 : inW c d e = true
      · rw [List.filter_cons_of_pos q2]; simp only [List.length_cons]; omega
      · rw [List.filter_cons_of_neg q2]; exact ih

theorem nextR_ok {f : For} {s c : Int} (h0 : 0 ≤ c) (h1 : s + c ≤ 1125899906842624) (h : (win s (s + c) (playF f 0)).length ≤ 4096) : nextR f s c = (win s (s + c) (playF f 0), s + c, 0) := by
  unfold nextR
  rw [if_neg (by omega), if_neg (by omega)]

theorem sum_nonneg : ∀ {cs : List Int}, (∀ c ∈ cs, 0 ≤ c) → 0 ≤ cs.sum
  | [], _ => by simp
  | c :: cs, h => by
    have h1 := h c (.head _)
    have h2 := sum_nonneg (cs := cs) (fun x hx => h x (.tail _ hx))
    simp only [List.sum_cons]
    omega

theorem pieces {f : For} (hf : Fine f) : ∀ (cs : List Int) (s : Int), 0 ≤ s → (∀ c ∈ cs, 0 ≤ c) → s + cs.sum ≤ 1125899906842624 → (win s (s + cs.sum) (playF f 0)).length ≤ 4096 →
    (∀ p ∈ playR f s (cs.map tnOf), p.er = 0) ∧ (playR f s (cs.map tnOf)).flatMap (·.evs) = win s (s + cs.sum) (playF f 0)
  | [], s, _, _, _, _ => by
    refine ⟨(fun p hp => by simp [playR] at hp), ?_⟩
    simp only [List.map_nil, playR, List.flatMap_nil, List.sum_nil, Int.add_zero]
    symm
    unfold win
    rw [List.filter_eq_nil_iff]
    intro e _
    unfold inW
    simp
  | c :: cs, s, h0, hc, hs, hl => by
    have hc0 := hc c (.head _)
    have hn := sum_nonneg (cs := cs) (fun x hx => hc x (.tail _ hx))
    simp only [List.sum_cons] at hs hl ⊢
    have hl1 : (win s (s + c) (playF f 0)).length ≤ 4096 := Nat.le_trans (win_len_mono (by omega) (by omega)) hl
    have ht := go_turn f s c
    rw [nextR_ok hc0 (by omega) hl1] at ht
    have e2 : s + c + cs.sum = s + (c + cs.sum) := by omega
    have ih := pieces hf cs (s + c) (by omega) (fun x hx => hc x (.tail _ hx)) (by omega) (by rw [e2]; exact Nat.le_trans (win_len_mono (by omega) (by omega)) hl)
    rw [e2] at ih
    simp only [List.map_cons, playR, tnOf] at *
    rw [ht]
    refine ⟨fun p hp => ?_, ?_⟩
    · rcases List.mem_cons.1 hp with rfl | hp
      · rfl
      · exact ih.1 p hp
    · simp only [List.flatMap_cons]
      rw [ih.2]
      exact win_split (play_within f 0 hf).1 (by omega) (by omega)

/-! ### turns of the call's own -/
def tnC (ts : List Tn) : List Value := ts.flatMap fun t => [.int .i64 t.seek, .int .i64 t.ticks]
theorem tnC_len (ts : List Tn) : (tnC ts).length = ts.length * 2 := by
  induction ts with
  | nil => rfl
  | cons t ts ih => simp only [tnC, List.flatMap_cons, List.length_append, List.length_cons, List.length_nil] at *; rw [ih]; omega
theorem tnC_snoc (ts : List Tn) (t : Tn) : tnC (ts ++ [t]) = tnC ts ++ [.int .i64 t.seek, .int .i64 t.ticks] := by simp [tnC]
theorem tnC_get : ∀ (ts : List Tn) (i : Nat) (t : Tn), ts[i]? = some t → (tnC ts)[i * 2]? = some (.int .i64 t.seek) ∧ (tnC ts)[i * 2 + 1]? = some (.int .i64 t.ticks)
  | [], i, t, h => by simp at h
  | x :: ts, 0, t, h => by
    simp at h
    subst h
    exact ⟨rfl, rfl⟩
  | x :: ts, i + 1, t, h => by
    have := tnC_get ts i t (by simpa using h)
    have e1 : (i + 1) * 2 = i * 2 + 2 := by omega
    rw [e1]
    simp only [tnC, List.flatMap_cons] at *
    exact this

theorem tns_of_own {w : World} {B : Nat} {v : Value} {ts : List Tn} (h : w.ownsRow B 31 2 v ts.length (tnC ts)) : Tns w v ts := by
  rcases h.2 with ⟨rfl, hn⟩ | ⟨g, cap, cur, rfl, _, hgg, hc, hm1, hsz, ht⟩
  · exact .inr ⟨none, 0, rfl, List.eq_nil_of_length_eq_zero hn⟩
  · refine .inl ⟨g, 0, cap, rfl, fun i t hit => ?_⟩
    have hi : i < ts.length := (List.getElem?_eq_some_iff.1 hit).1
    obtain ⟨h0, h1⟩ := tnC_get ts i t hit
    have key : ∀ j u, (tnC ts)[i * 2 + j]? = some u → j < 2 → w.cell? ⟨g, 0 + (i * 2 + j), none⟩ = some u := by
      intro j u hu hj
      rw [Nat.zero_add, cell_of hgg]
      rw [← ht, List.getElem?_take, if_pos (by omega), Array.getElem?_toList] at hu
      exact hu
    refine ⟨[.int .i64 t.seek, .int .i64 t.ticks], rfl, fun j u hj => ?_, rfl⟩
    match j, hj with
    | 0, hj => exact key 0 u (by simpa using h0.trans hj) (by decide)
    | 1, hj => exact key 1 u (by simpa using h1.trans hj) (by decide)
    | j + 2, hj => simp at hj

/-- All events of a slice behind a row of the call's own. -/
theorem append_more {ops : Array Oper} {rest : List Oper} {o : Oper} {a : Act} {Q : Exit → Act → World → Prop} (hgd : o.guard = none) (s x : Operand)
    (ho : o.op = .call { callee := .builtin .append, args := #[s, x], argTypes := #[32, 32] }) (B : Nat) (v : Value) (Y : List Ev) (w : World) (ao : Option Addr) (c : Nat) (es : List Ev)
    (hs : a.eval s = v) (hown : w.ownsRow B 60 5 v Y.length (evC Y)) (hx : a.eval x = .slice ao es.length c) (hil : Evs w (.slice ao es.length c) es) (hm : Y.length + es.length ≤ 1099511627776) (hB : B ≤ w.heap.size)
    (h : ∀ v' w', Hid (w'.ownsRow B 60 5 v' (Y ++ es).length (evC (Y ++ es))) → Hid (w.grownBy w' v.ownBlock) → wpList Try.prog ops Q rest (a.put o.dst v') w') :
    wpList Try.prog ops Q (o :: rest) a w := by
  obtain ⟨i0, hi, hz0, hz1, hz2⟩ := info_parts info60
  have hev : evC (Y ++ es) = evC Y ++ evC es := by simp [evC]
  cases ao with
  | some ad =>
    refine wpList_append_own_at w hgd s x 32 ho B 60 i0 (.agg #[.int .i64 0, .int .i64 0, .int .i64 0, .int .i64 0, .int .i64 0]) 5 40 Try.underlying32 hi hz0 hz1 hz2 rfl (by decide) v Y.length (evC Y) hs hown ad es.length c (evC es) hx (by rw [evC_len]) ?_ evC_one (by unfold maxLen; omega) (by omega) hB ?_
    · intro j u hu
      obtain ⟨e, he, hu2⟩ := evC_split hu
      rcases hil with ⟨b, off, cap', hh, hel⟩ | ⟨_, _, _, rfl⟩
      · simp only [Value.slice.injEq, Option.some.injEq] at hh
        obtain ⟨rfl, _, rfl⟩ := hh
        rw [show ((⟨b, off, none⟩ : Addr).add j) = ⟨b, off + j, none⟩ from Addr.add_lit _ _ _]
        obtain ⟨cs, _, h2, rfl, _⟩ := hel (j / 5) e he
        have := h2 (j % 5) u hu2
        rw [show off + j = off + (j / 5 * 5 + j % 5) from by omega]
        exact this
      · simp at he
    · intro v' w' h2 h3 _ _
      refine h v' w' ?_ h3
      unfold Hid
      rw [List.length_append, hev]
      exact h2
  | none =>
    have hn : es = [] := by
      rcases hil with ⟨b, off, cap', hh, _⟩ | ⟨_, _, _, hnil⟩
      · simp at hh
      · exact hnil
    subst hn
    refine wpList_plain hgd fun K hK => ?_
    have hrun : (Builtin.append_ #[32, 32] o.type #[v, .slice none 0 c]).run Try.prog w = .ok v w := by
      rcases hown.2 with ⟨rfl, hy⟩ | ⟨g, cap, cur, rfl, _, _, hnc, _⟩
      · simp [Builtin.append_, run_underlying Try.underlying32, sizeOf, typeInfo, hi, Builtin.lenOf, Builtin.firstCells]
      · simp [Builtin.append_, run_underlying Try.underlying32, sizeOf, typeInfo, hi, Builtin.lenOf, Builtin.firstCells, hnc, storeCells]
    unfold Oper.wp
    simp only [List.length_nil] at hx
    simp [execOp, ho, resolve, invoke, builtin, hs, hx, hrun, Result.andThen]
    refine hK _ _ (h v w ?_ (grown_refl _ _))
    rw [List.append_nil]
    exact hown

end Go.Proofs.Ythmcicmebaibgaa.TWnd
