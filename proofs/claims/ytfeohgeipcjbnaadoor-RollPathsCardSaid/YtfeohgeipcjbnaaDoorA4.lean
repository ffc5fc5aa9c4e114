/- Joined by a program (merge.py) out of own texts: C7 C8 C9 C10 C11 C12 C13 C14 C15 C16 C17 J3. -/
import Derived.Test.YtfeohgeipcjbnaaDoorA3
import Derived.Test.YtfeohgeipcjbnaaDoorTie
import Derived.Test.YtfeohgeipcjbnaaDoorCards
/- Contracts: paths of views. -/
set_option autoImplicit false
set_option maxRecDepth 100000
namespace GoX
open Go GoX.M

/-- Path -/
theorem c7 (r : Roll) (l : List Change) (hl : l.length ≤ 1000) : Sim S.P 7 [vRoll r, .sl .change l] [] [] (.val (.sl .roll (rollPath r l))) [] := by
  generalize hy : rollPath r l = y
  unfold rollPath at hy
  obtain ⟨v, m⟩ := r
  refine run7 0 (fun id => id == 200) 50 (by simp) (fun S' hS => ?_) (fun _ _ _ => rfl)
  unfold xc7
  cbv
  refine ⟨_, _, _, hS.sim (c12 ⟨v, m⟩), ?_⟩
  generalize hrr : rollRight ⟨v, m⟩ = rr at *
  cases rr
  · cbv
    exact ⟨by simpa using hy.symm, trivial⟩
  · cbv
    refine VK_loop (α := Int × List Roll) (fun p => 0 ≤ p.1 ∧ p.1.toNat ≤ l.length ∧ p.2.length = p.1.toNat + 1 ∧ p.2.dropLast ++ steps (p.2.getLastD ⟨0, 0⟩) (l.drop p.1.toNat) = y)
      (fun p => ⟨[(5, .ow 200 .roll 0 (ln p.2)), (15, .sl .change l), (16, .i .i64 (ln l)), (17, .i .i64 p.1)], [(200, .row .roll p.2)]⟩) (fun p => (l.length - p.1.toNat)) ?_ ⟨(0, [⟨v, m⟩]), ⟨by simp, by simp, by simp, by simpa using hy⟩, ?_⟩
    · rintro ⟨i, acc⟩ ⟨h1, h2, h3, h4⟩
      simp only at h1 h2 h3 h4
      refine hS.run 50 ?_
      cbv
      split <;> rename_i hi
      · simp only [Ops.all, decide_eq_true_eq] at hi
        have hi : i < (l.length : Int) := hi
        have hq : i.toNat < l.length := by omega
        have hacc : acc.length - 1 = i.toNat := by omega
        have hw : IntKind.i64.wrap ((acc.length : Int) - 1) = i := by rw [wraps.2.2.2.2]; omega
        cbv
        refine ⟨⟨by simp only [defs]; exact ⟨h1, hi⟩⟩, ⟨by simp only [Ops.all, hw]; omega⟩, ⟨by simp only [Ops.all, defs, hw]; omega⟩, ?_⟩
        refine ⟨_, _, _, hS.sim (c10 _ _), ?_⟩
        have hne : acc ≠ [] := by intro h; rw [h] at h3; simp at h3
        generalize hra : rollApply _ _ = ra
        simp only [Ops.all, hw, Int.zero_add] at hra
        have hlast : acc.getD i.toNat ⟨0, 0⟩ = acc.getLastD ⟨0, 0⟩ := by
          rw [List.getLastD_eq_getLast?, List.getLast?_eq_getElem?, hacc, List.getD_eq_getElem?_getD]
        have hd : l.drop i.toNat = l.getD i.toNat ⟨false, 0⟩ :: l.drop (i.toNat + 1) := by
          rw [List.drop_eq_getElem_cons hq, List.getD_eq_getElem?_getD, List.getElem?_eq_getElem hq]; rfl
        rw [hlast] at hra
        rw [hd] at h4
        simp only [steps] at h4
        rw [hra] at h4
        obtain ⟨⟨a1, a2⟩, a3⟩ := ra
        have hfin : acc.dropLast ++ [acc.getLastD ⟨0, 0⟩] = acc := by
          rw [show acc.getLastD ⟨0, 0⟩ = acc.getLast hne from by rw [List.getLastD_eq_getLast?, List.getLast?_eq_some_getLast hne]; rfl, List.dropLast_concat_getLast]
        clear hra
        cbv
        split <;> rename_i h0
        · have h0' : ¬ a3 = 0 := by intro h; subst h; simp [Ops.all] at h0
          simp only [h0', if_false] at h4
          rw [hfin] at h4
          cbv
          refine hS.run 50 ?_
          cbv
          simp only [Ops.all, defs]
          refine ⟨⟨by simp⟩, ?_, trivial⟩
          rw [← h4]; simp
        · have h0' : a3 = 0 := by
            by_cases h : a3 = 0
            · exact h
            · exfalso; simp [Ops.all, h] at h0
          subst h0'
          simp only [if_true] at h4
          cbv
          refine ⟨⟨by simp [defs]⟩, ⟨by simp [Ops.all, defs], ⟨by simp [Ops.all, defs]; omega⟩⟩, ?_⟩
          refine ⟨(i + 1, acc ++ [⟨a1, a2⟩]), ⟨by simp; omega, by simp; omega, by simp; omega, ?_⟩, by simp; omega, ?_⟩
          · simp only [List.dropLast_concat, List.getLastD_concat]
            rw [← h4, show (i + 1).toNat = i.toNat + 1 from by omega]
            conv => lhs; rw [← hfin]
            simp
          · generalize hj : i + 1 = j
            generalize hk : acc ++ [⟨a1, a2⟩] = k
            refine Wk.rn [(2432, 200)] (by cbv) ?_ ?_
            · cbv
              simp only [Ops.all, defs, wraps, true_and, and_true, V.i.injEq, V.ow.injEq]
              rw [← hk]
              refine ⟨by simp, by omega⟩
            · cbv
              simp only [Ops.all, defs, wraps, true_and, and_true, XObj.row.injEq, heq_eq_eq]
              rw [← hk]
              simp
      · cbv
        refine hS.run 50 ?_
        cbv
        simp only [Ops.all, defs, decide_eq_false_iff_not] at hi ⊢
        refine ⟨⟨by simp⟩, ?_, trivial⟩
        have hi : ¬ i < (l.length : Int) := hi
        have e : l.drop i.toNat = [] := List.drop_eq_nil_of_le (by omega)
        rw [e] at h4
        have hne : acc ≠ [] := by intro h; rw [h] at h3; simp at h3
        rw [show steps (acc.getLastD ⟨0, 0⟩) [] = [acc.getLastD ⟨0, 0⟩] from rfl] at h4
        rw [show acc.getLastD ⟨0, 0⟩ = acc.getLast hne from by rw [List.getLastD_eq_getLast?, List.getLast?_eq_some_getLast hne]; rfl, List.dropLast_concat_getLast] at h4
        rw [← h4]; simp
    · refine Wk.rn [(960, 200)] (by cbv) ?_ ?_
      · cbv
        simp [Ops.all]
      · cbv; try trivial
end GoX
/- Contracts: the document's paths of views. -/
set_option autoImplicit false
set_option maxRecDepth 100000
namespace GoX
open Go GoX.M

/-- the document's Path -/
theorem c9 (r : Roll) (l : List Change) (hl : l.length ≤ 1000) : Sim S.P 9 [vRoll r, .sl .change l] [] [] (.val (.sl .roll (rollPath r l))) [] := by
  generalize hy : rollPath r l = y
  unfold rollPath at hy
  obtain ⟨v0, m0⟩ := r
  refine run9 0 (fun id => id == 200) 50 (by simp) (fun S' hS => ?_) (fun _ _ _ => rfl)
  unfold xc9
  cbv
  refine ⟨_, _, _, hS.sim (c15 ⟨v0, m0⟩), ?_⟩
  generalize hrr : rollRight ⟨v0, m0⟩ = rr at *
  cases rr
  · cbv
    exact ⟨by simpa using hy.symm, trivial⟩
  · cbv
    refine ⟨⟨by simp [defs]⟩, ⟨⟨by simp [defs, Ops.all]⟩⟩, ?_⟩
    refine VK_loop (α := Int × List Roll × Int × Int) (fun p => 0 ≤ p.1 ∧ p.1.toNat ≤ l.length ∧ ∃ pre, p.2.1 = pre ++ [⟨p.2.2.1, p.2.2.2⟩] ∧ pre.length = p.1.toNat ∧ pre ++ steps ⟨p.2.2.1, p.2.2.2⟩ (l.drop p.1.toNat) = y)
      (fun p => ⟨[(1, .sl .change l), (2, .pt 201 0), (5, .ow 200 .roll 0 (ln p.2.1)), (6, .i .i64 p.1)], [(200, .row .roll p.2.1), (201, .cells [.i .i64 p.2.2.1, .i .u16 p.2.2.2])]⟩) (fun p => (l.length - p.1.toNat)) ?_ ⟨(0, [⟨v0, m0⟩], v0, m0), ⟨by simp, by simp, [], by simp, by simp, by simpa using hy⟩, ?_⟩
    · rintro ⟨i, acc, v, m⟩ ⟨h1, h2, pre, h3, h4, h5⟩
      simp only at h1 h2 h3 h4 h5
      refine hS.run 50 ?_
      cbv
      split <;> rename_i hi
      · simp only [Ops.all, decide_eq_true_eq] at hi
        have hi : i < (l.length : Int) := hi
        have hq : i.toNat < l.length := by omega
        have hd : l.drop i.toNat = l.getD i.toNat ⟨false, 0⟩ :: l.drop (i.toNat + 1) := by
          rw [List.drop_eq_getElem_cons hq, List.getD_eq_getElem?_getD, List.getElem?_eq_getElem hq]; rfl
        have ha : acc.length = i.toNat + 1 := by rw [h3]; simp [h4]
        rw [hd] at h5
        simp only [steps] at h5
        cbv
        refine ⟨⟨by simp only [defs]; exact ⟨h1, hi⟩⟩, ?_⟩
        refine ⟨_, _, _, hS.sim (c16 ⟨v, m⟩ _), ?_⟩
        generalize hra : rollApply _ _ = ra
        simp only [Ops.all] at hra
        rw [hra] at h5
        obtain ⟨⟨a1, a2⟩, a3⟩ := ra
        clear hra
        cbv
        split <;> rename_i h0
        · have h0' : ¬ a3 = 0 := by intro h; subst h; simp [Ops.all] at h0
          simp only [h0', if_false] at h5
          cbv
          simp only [Ops.all, defs]
          refine ⟨⟨by simp⟩, ?_, trivial⟩
          rw [← h5, ← h3]; simp
        · have h0' : a3 = 0 := by
            by_cases h : a3 = 0
            · exact h
            · exfalso; simp [Ops.all, h] at h0
          subst h0'
          simp only [if_true] at h5
          cbv
          refine ⟨⟨by simp [defs]⟩, ⟨by simp [Ops.all, defs], ⟨by simp [Ops.all, defs]; omega⟩⟩, ?_⟩
          refine ⟨(i + 1, acc ++ [⟨a1, a2⟩], a1, a2), ⟨by simp; omega, by simp; omega, acc, by simp, by simp; omega, ?_⟩, by simp; omega, ?_⟩
          · simp only [show (i + 1).toNat = i.toNat + 1 from by omega]
            rw [← h5, h3]; simp
          · generalize hj : i + 1 = j
            generalize hk : acc ++ [⟨a1, a2⟩] = k
            refine Wk.rn [(2560, 200), (201, 201)] (by cbv) ?_ ?_
            · cbv
              simp only [Ops.all, defs, wraps, true_and, and_true, V.i.injEq, V.ow.injEq]
              rw [← hk]
              refine ⟨by simp, by omega⟩
            · cbv
              simp only [Ops.all, defs, wraps, true_and, and_true, XObj.row.injEq, heq_eq_eq]
              rw [← hk]
              simp
      · cbv
        refine hS.run 50 ?_
        cbv
        simp only [Ops.all, defs, decide_eq_false_iff_not] at hi ⊢
        refine ⟨⟨by simp⟩, ?_, trivial⟩
        have hi : ¬ i < (l.length : Int) := hi
        have e : l.drop i.toNat = [] := List.drop_eq_nil_of_le (by omega)
        rw [e] at h5
        simp only [steps] at h5
        rw [← h5, ← h3]; simp
    · refine Wk.rn [(1088, 200), (192, 201)] (by cbv) ?_ ?_
      · cbv
        simp [Ops.all, defs]
      · cbv
        simp [Ops.all, defs]
end GoX
/- Contracts: changes. -/
set_option autoImplicit false
set_option maxRecDepth 100000
namespace GoX
open Go GoX.M

/-- changes -/
theorem c8 (l : List Change) (hl : l.length ≤ 1000) : Sim S.P 8 [.sl .change l] [] [] (.val (.sl .change l)) [] := by
  refine run8 0 (fun id => id == 200) 50 (by simp) (fun S' hS => ?_) (fun _ _ _ => rfl)
  unfold xc8
  cbv
  refine VK_loop (α := Int × List Change) (fun p => 0 ≤ p.1 ∧ p.1.toNat ≤ l.length ∧ p.2 = l.take p.1.toNat)
    (fun p => ⟨[(3, .ow 200 .change 0 (ln p.2)), (6, .sl .change l), (7, .i .i64 (ln l)), (8, .i .i64 p.1)], [(200, .row .change p.2)]⟩) (fun p => (l.length - p.1.toNat)) ?_ ⟨(0, []), ⟨by simp, by simp, by simp⟩, ?_⟩
  · rintro ⟨i, acc⟩ ⟨h1, h2, h3⟩
    simp only at h1 h2 h3
    refine hS.run 50 ?_
    cbv
    split <;> rename_i hi
    · simp only [Ops.all, decide_eq_true_eq] at hi
      have hi : i < (l.length : Int) := hi
      have hq : i.toNat < l.length := by omega
      have ha : acc.length = i.toNat := by rw [h3, List.length_take]; omega
      have hg : l.getD i.toNat ⟨false, 0⟩ = l[i.toNat] := by rw [List.getD_eq_getElem?_getD, List.getElem?_eq_getElem hq]; rfl
      cbv
      refine ⟨⟨by simp only [defs]; exact ⟨h1, hi⟩⟩, ⟨by simp [defs]⟩, ⟨by simp [Ops.all, defs], ⟨by simp [Ops.all, defs]; omega⟩⟩, ?_⟩
      refine ⟨(i + 1, acc ++ [l.getD i.toNat ⟨false, 0⟩]), ⟨by simp; omega, by simp; omega, ?_⟩, by simp; omega, ?_⟩
      · simp only [show (i + 1).toNat = i.toNat + 1 from by omega]
        rw [h3, hg, List.take_append_getElem hq]
      · generalize hj : i + 1 = j
        generalize hk : acc ++ [l.getD i.toNat ⟨false, 0⟩] = k
        refine Wk.rn [(1024, 200)] (by cbv) ?_ ?_
        · cbv
          simp only [Ops.all, defs, wraps, true_and, and_true, V.i.injEq, V.ow.injEq]
          rw [← hk]
          refine ⟨by simp, by omega⟩
        · cbv
          simp only [Ops.all, defs, wraps, true_and, and_true, XObj.row.injEq, heq_eq_eq]
          rw [← hk]
          simp
    · cbv
      refine hS.run 50 ?_
      cbv
      simp only [Ops.all, defs, decide_eq_false_iff_not] at hi ⊢
      refine ⟨⟨by simp⟩, ?_, trivial⟩
      have hi : ¬ i < (l.length : Int) := hi
      have e : l.take i.toNat = l := List.take_of_length_le (by omega)
      rw [h3, e]; simp
  · refine Wk.trans (Wk.nsT 3 200 .change (by omega) (by cbv)) (Wk.rn [(200, 200)] (by cbv) ?_ ?_)
    · cbv
      simp [Ops.all]
    · cbv; try trivial
end GoX
/- Contracts: texts. -/
set_option autoImplicit false
set_option maxRecDepth 100000
namespace GoX
open Go GoX.M

def hasPre (s p : Bs) : Bool := decide (s.take p.length = p)
theorem hasPre_len {s p : Bs} (h : hasPre s p = true) : p.length ≤ s.length := by
  have h : s.take p.length = p := by simpa [hasPre] using h
  have := congrArg List.length h
  rw [List.length_take] at this
  omega

/-- HasPrefix -/
theorem c35 (s p : Bs) : Sim S.P 35 [.s s, .s p] [] [] (.val (.b (hasPre s p))) [] := by
  generalize hy : hasPre s p = y
  refine run35 0 (fun _ => false) 50 (by simp) (fun S' hS => ?_) (fun _ _ _ => rfl)
  unfold xc35
  cbv
  split <;> rename_i hc
  · have e := g1 hc
    simp only [e]
    simp only [Ops.all, decide_eq_true_eq] at e
    have e' : (p.length : Int) ≤ s.length := e
    have hq : p.length ≤ s.length := by omega
    cbv
    refine ⟨⟨by simp only [Ops.all, defs]; omega⟩, ?_⟩
    simp only [Ops.all, and_true, V.b.injEq]
    rw [← hy]; unfold hasPre; simp
  · have e := g0 hc
    simp only [e]
    simp only [Ops.all, decide_eq_false_iff_not] at e
    have e' : ¬ (p.length : Int) ≤ s.length := e
    have hq : ¬ hasPre s p = true := fun h => by have := hasPre_len h; omega
    cbv
    simp only [and_true, V.b.injEq]
    rw [← hy]; simpa using hq

/-- CutPrefix -/
theorem c29 (s p : Bs) : Sim S.P 29 [.s s, .s p] [] [] (.val (if hasPre s p then .tup [.s (s.drop p.length), .b true] else .tup [.s s, .b false])) [] := by
  generalize hy : hasPre s p = y
  cases y
  · simp only [Bool.false_eq_true, if_false]
    refine run29 0 (fun _ => false) 50 (by simp) (fun S' hS => ?_) (fun _ _ _ => rfl)
    unfold xc29
    cbv
    refine ⟨_, _, _, hS.sim (c35 _ _), ?_⟩
    rw [hy]
    cbv
  · have hl := hasPre_len hy
    generalize hd : s.drop p.length = d
    simp only [if_true]
    refine run29 0 (fun _ => false) 50 (by simp) (fun S' hS => ?_) (fun _ _ _ => rfl)
    unfold xc29
    cbv
    refine ⟨_, _, _, hS.sim (c35 _ _), ?_⟩
    rw [hy]
    cbv
    refine ⟨⟨by simp only [Ops.all, defs]; omega⟩, ?_⟩
    simp only [Ops.all, and_true, true_and, V.s.injEq]
    rw [← hd]; simp

/-- TrimPrefix -/
theorem c30 (s p : Bs) : Sim S.P 30 [.s s, .s p] [] [] (.val (.s (if hasPre s p then s.drop p.length else s))) [] := by
  generalize hy : hasPre s p = y
  cases y
  · simp only [Bool.false_eq_true, if_false]
    refine run30 0 (fun _ => false) 50 (by simp) (fun S' hS => ?_) (fun _ _ _ => rfl)
    unfold xc30
    cbv
    refine ⟨_, _, _, hS.sim (c35 _ _), ?_⟩
    rw [hy]
    cbv
  · have hl := hasPre_len hy
    generalize hd : s.drop p.length = d
    simp only [if_true]
    refine run30 0 (fun _ => false) 50 (by simp) (fun S' hS => ?_) (fun _ _ _ => rfl)
    unfold xc30
    cbv
    refine ⟨_, _, _, hS.sim (c35 _ _), ?_⟩
    rw [hy]
    cbv
    refine ⟨⟨by simp only [Ops.all, defs]; omega⟩, ?_⟩
    simp only [Ops.all, and_true, true_and, V.s.injEq]
    rw [← hd]; simp

theorem c21 (s p : Bs) : Sim S.P 21 [.s s, .s p] [] [] (.val (if hasPre s p then .tup [.s (s.drop p.length), .b true] else .tup [.s s, .b false])) [] := by
  generalize hd : s.drop p.length = d
  refine run21 0 (fun _ => false) 50 (by simp) (fun S' hS => ?_) (fun _ _ _ => rfl)
  unfold xc21
  generalize hy : hasPre s p = y
  cbv
  refine ⟨_, _, _, hS.sim (c29 _ _), ?_⟩
  rw [hy, hd]
  cases y <;> cbv

theorem c22 (s p : Bs) : Sim S.P 22 [.s s, .s p] [] [] (.val (.s (if hasPre s p then s.drop p.length else s))) [] := by
  generalize hd : s.drop p.length = d
  refine run22 0 (fun _ => false) 50 (by simp) (fun S' hS => ?_) (fun _ _ _ => rfl)
  unfold xc22
  generalize hy : hasPre s p = y
  cbv
  refine ⟨_, _, _, hS.sim (c30 _ _), ?_⟩
  rw [hy, hd]
  cases y <;> cbv
end GoX
/- Contracts: numbers as texts. -/
set_option autoImplicit false
set_option maxRecDepth 100000
namespace GoX
open Go GoX.M

/-- a small number's text. -/
def numText (n : Int) : Bs := if n < 10 then [48 + n] else [48 + n / 10, 48 + n % 10]

theorem numText_len (n : Int) : (numText n).length ≤ 2 := by unfold numText; split <;> simp

/-- small -/
theorem c45 (n : Int) (h0 : 0 ≤ n) (h1 : n < 100) : Sim S.P 45 [.i .i64 n] [] [] (.val (.s (numText n))) [] := by
  generalize hy : numText n = y
  refine run45 0 (fun _ => false) 50 (by simp) (fun S' hS => ?_) (fun _ _ _ => rfl)
  unfold xc45
  cbv
  split <;> rename_i hc
  · cbv
    simp only [Ops.all, decide_eq_true_eq] at hc
    have hw : IntKind.i64.wrap (n + 1) = n + 1 := by rw [wraps.2.2.2.2]; omega
    refine ⟨⟨by simp only [Ops.all, defs, hw, List.length_cons, List.length_nil]; omega⟩, ?_⟩
    simp only [Ops.all, hw, and_true, true_and, V.s.injEq]
    rw [← hy]
    have key : ∀ k : Fin 10, List.drop (k.val : Int).toNat (List.take ((k.val : Int) + 1).toNat [48, 49, 50, 51, 52, 53, 54, 55, 56, 57, 97, 98, 99, 100, 101, 102, 103, 104, 105, 106, 107, 108, 109, 110, 111, 112, 113, 114, 115, 116, 117, 118, 119, 120, 121, 122]) = numText (k.val : Int) := by decide
    have := key ⟨n.toNat, by omega⟩
    rw [show ((n.toNat : Nat) : Int) = n from by omega] at this
    exact this
  · cbv
    simp only [Ops.all, decide_eq_false_iff_not] at hc
    have hw : IntKind.i64.wrap (n * 2) = n * 2 := by rw [wraps.2.2.2.2]; omega
    have hw2 : IntKind.i64.wrap (n * 2 + 2) = n * 2 + 2 := by rw [wraps.2.2.2.2]; omega
    refine ⟨⟨by simp only [Ops.all, defs, hw, hw2, List.length_cons, List.length_nil]; omega⟩, ?_⟩
    simp only [Ops.all, hw, hw2, and_true, true_and, V.s.injEq]
    rw [← hy]
    have key : ∀ k : Fin 100, ¬ (k.val : Int) < 10 → List.drop ((k.val : Int) * 2).toNat (List.take ((k.val : Int) * 2 + 2).toNat [48, 48, 48, 49, 48, 50, 48, 51, 48, 52, 48, 53, 48, 54, 48, 55, 48, 56, 48, 57, 49, 48, 49, 49, 49, 50, 49, 51, 49, 52, 49, 53, 49, 54, 49, 55, 49, 56, 49, 57, 50, 48, 50, 49, 50, 50, 50, 51, 50, 52, 50, 53, 50, 54, 50, 55, 50, 56, 50, 57, 51, 48, 51, 49, 51, 50, 51, 51, 51, 52, 51, 53, 51, 54, 51, 55, 51, 56, 51, 57, 52, 48, 52, 49, 52, 50, 52, 51, 52, 52, 52, 53, 52, 54, 52, 55, 52, 56, 52, 57, 53, 48, 53, 49, 53, 50, 53, 51, 53, 52, 53, 53, 53, 54, 53, 55, 53, 56, 53, 57, 54, 48, 54, 49, 54, 50, 54, 51, 54, 52, 54, 53, 54, 54, 54, 55, 54, 56, 54, 57, 55, 48, 55, 49, 55, 50, 55, 51, 55, 52, 55, 53, 55, 54, 55, 55, 55, 56, 55, 57, 56, 48, 56, 49, 56, 50, 56, 51, 56, 52, 56, 53, 56, 54, 56, 55, 56, 56, 56, 57, 57, 48, 57, 49, 57, 50, 57, 51, 57, 52, 57, 53, 57, 54, 57, 55, 57, 56, 57, 57]) = numText (k.val : Int) := by decide +kernel
    have := key ⟨n.toNat, by omega⟩
    rw [show ((n.toNat : Nat) : Int) = n from by omega] at this
    exact this hc

theorem c42 (n : Int) (h0 : 0 ≤ n) (h1 : n < 100) : Sim S.P 42 [.i .i64 n, .i .i64 10] [] [] (.val (.s (numText n))) [] := by
  generalize hy : numText n = y
  refine run42 0 (fun _ => false) 50 (by simp) (fun S' hS => ?_) (fun _ _ _ => rfl)
  unfold xc42
  have e1 : (Classical.choice ops_ne).leI 0 n = true := by simp [Ops.all, h0]
  have e2 : (Classical.choice ops_ne).ltI n 100 = true := by simp [Ops.all, h1]
  have e0 : (Classical.choice ops_ne).eqI 10 10 = true := by simp [Ops.all]
  cbv
  simp only [e0]
  cbv
  simp only [e1]
  cbv
  simp only [e2]
  cbv
  refine ⟨_, _, _, hS.sim (c45 _ h0 h1), ?_⟩
  rw [hy]
  cbv

theorem c33 (n : Int) (h0 : 0 ≤ n) (h1 : n < 100) : Sim S.P 33 [.i .i64 n] [] [] (.val (.s (numText n))) [] := by
  refine run33 0 (fun _ => false) 50 (by simp) (fun S' hS => ?_) (fun _ _ _ => rfl)
  unfold xc33
  generalize hy : numText n = y
  cbv
  refine ⟨_, _, _, hS.sim (c42 _ h0 h1), ?_⟩
  rw [hy]
  cbv

theorem c24 (n : Int) (h0 : 0 ≤ n) (h1 : n < 100) : Sim S.P 24 [.i .i64 n] [] [] (.val (.s (numText n))) [] := by
  refine run24 0 (fun _ => false) 50 (by simp) (fun S' hS => ?_) (fun _ _ _ => rfl)
  unfold xc24
  generalize hy : numText n = y
  cbv
  refine ⟨_, _, _, hS.sim (c33 _ h0 h1), ?_⟩
  rw [hy]
  cbv

/-- a change's text. -/
def chText (c : Change) : Bs := (if c.add then 43 else 45) :: numText c.id

theorem c14 (c : Change) (h1 : c.id < 100) : Sim S.P 14 [vChange c] [] [] (.val (.s (chText c))) [] := by
  refine Sim.facts (fun hA _ => ?_) (fun _ _ _ => rfl)
  obtain ⟨add, id⟩ := c
  have hG : FactL [.b add, .i .u8 id] := hA (vChange ⟨add, id⟩) (by simp)
  have hid := rng_u8 hG.tail.head
  unfold chText
  simp only at h1 ⊢
  generalize hy : numText id = y
  have hw : IntKind.i64.wrap id = id := by rw [wraps.2.2.2.2]; omega
  cases add <;> simp only [Bool.false_eq_true, if_false, if_true] <;> (
    refine run14 0 (fun _ => false) 50 (by simp) (fun S' hS => ?_) (fun _ _ _ => rfl)
    unfold xc14
    cbv
    have e1 : (Classical.choice ops_ne).wr IntKind.i64 id = id := by simp only [Ops.all, hw]
    simp only [e1]
    refine ⟨_, _, _, hS.sim (c24 id (by omega) (by omega)), ?_⟩
    rw [hy]
    cbv
    have hl : y.length ≤ 2 := by rw [← hy]; exact numText_len id
    refine ⟨⟨by simp [defs]; omega⟩, ?_⟩
    simp [Ops.all])
end GoX
/- Contracts: errors of numbers' texts. -/
set_option autoImplicit false
set_option maxRecDepth 100000
namespace GoX
open Go GoX.M

/-- Clone -/
theorem c43 (s : Bs) (hb : s.length ≤ 4294967296) : Sim S.P 43 [.s s] [] [] (.val (.s s)) [] := by
  refine run43 0 (fun _ => false) 50 (by simp) (fun S' hS => ?_) (fun _ _ _ => rfl)
  unfold xc43
  cbv
  split <;> rename_i hc
  · cbv
    simp only [Ops.all, decide_eq_true_eq] at hc
    have : s = [] := List.eq_nil_of_length_eq_zero (by omega)
    exact ⟨by rw [this], trivial⟩
  · simp only [Ops.all, decide_eq_false_iff_not] at hc
    have hc' : s.length ≠ 0 := by intro h; exact hc (by omega)
    have hz : 0 < s.length := by omega
    cbv
    simp only [Ops.all, defs, Int.zero_add, Int.toNat_zero, List.take_zero, List.nil_append, Int.lt_irrefl, if_false, Int.toNat_natCast, List.take_length, List.drop_zero, List.length_append, List.length_replicate, List.length_drop]
    refine ⟨⟨by omega, ⟨by omega⟩⟩, ⟨trivial⟩, ⟨by omega, by omega⟩, ⟨by omega, by omega⟩, ⟨by omega, by omega⟩, ?_, trivial⟩
    simp

/-- what an error of a number's text is. -/
def numErr (fn s : Bs) : List (Nat × XObj) := [(32, .cells [.s fn, .s s, .ifc 85 .junk])]

theorem c38 (fn s : Bs) (hb : s.length ≤ 4294967296) : Sim S.P 38 [.s fn, .s s] [] [] (.val (.pt 32 0)) (numErr fn s) := by
  refine run38 0 (fun _ => false) 50 (by simp) (fun S' hS => ?_) (fun id h _ => by unfold numErr; simp only [lk]; rw [if_neg (by omega)])
  unfold xc38 numErr
  cbv
  refine ⟨_, _, _, hS.sim (c43 _ hb), ?_⟩
  cbv

theorem c39 (fn s : Bs) (hb : s.length ≤ 4294967296) : Sim S.P 39 [.s fn, .s s] [] [] (.val (.pt 32 0)) (numErr fn s) := by
  refine run39 0 (fun _ => false) 50 (by simp) (fun S' hS => ?_) (fun id h _ => by unfold numErr; simp only [lk]; rw [if_neg (by omega)])
  unfold xc39 numErr
  cbv
  refine ⟨_, _, _, hS.sim (c43 _ hb), ?_⟩
  cbv

/-- toError, of errors of syntax and of range -/
theorem c32 (fn s : Bs) (b z e : Int) (hb : s.length ≤ 4294967296) (he : e = 1 ∨ e = 2) : Sim S.P 32 [.s fn, .s s, .i .i64 b, .i .i64 z, .ifc 67 (.i .i64 e)] [] [] (.val (.ifc 71 (.pt 32 0))) (numErr fn s) := by
  refine run32 0 (fun _ => false) 50 (by simp) (fun S' hS => ?_) (fun id h _ => by unfold numErr; simp only [lk]; rw [if_neg (by omega)])
  unfold xc32
  unfold numErr
  have e12 : (Classical.choice ops_ne).eqI 1 2 = false := by simp [Ops.all]
  have e11 : (Classical.choice ops_ne).eqI 1 1 = true := by simp [Ops.all]
  have e22 : (Classical.choice ops_ne).eqI 2 2 = true := by simp [Ops.all]
  rcases he with rfl | rfl
  · cbv
    simp only [e12]
    cbv
    simp only [e11]
    cbv
    refine ⟨_, _, _, hS.sim (c39 _ _ hb), ?_⟩
    cbv
  · cbv
    simp only [e22]
    cbv
    refine ⟨_, _, _, hS.sim (c38 _ _ hb), ?_⟩
    cbv
end GoX
/- Contracts: texts as numbers. -/
set_option autoImplicit false
set_option maxRecDepth 100000
namespace GoX
open Go GoX.M

/-- the number of up to 15 that digits tell, from a beginning on; and an error's number. -/
def pu : Int → Bs → Int × Int
  | n, [] => (n, 0)
  | n, c :: s => if 48 ≤ c ∧ c ≤ 57 then (if 15 < n * 10 + (c - 48) then (15, 1) else pu (n * 10 + (c - 48)) s) else (0, 2)
def puAll (s : Bs) : Int × Int := if s = [] then (0, 2) else pu 0 s
def puErr (e : Int) : V := if e = 0 then .ni else .ifc 67 (.i .i64 e)

theorem c36 (c : Int) : Sim S.P 36 [.i .u8 c] [] [] (.val (.i .u8 (bitI .or .u8 c 32))) [] := by
  refine run36 0 (fun _ => false) 50 (by simp) (fun S' hS => ?_) (fun _ _ _ => rfl)
  unfold xc36
  cbv

theorem c31 (s : Bs) : Sim S.P 31 [.s s, .i .i64 10, .i .i64 4] [] [] (.val (.tup [.i .u64 (puAll s).1, puErr (puAll s).2])) [] := by
  refine Sim.facts (fun hA _ => ?_) (fun _ _ _ => rfl)
  have hF : Fact (.s s) := hA (.s s) (by simp)
  have hlen : s.length ≤ 9223372036854775807 := hF.s.1
  generalize hy : puAll s = y
  obtain ⟨y1, y2⟩ := y
  simp only
  generalize hz : puErr y2 = z
  unfold puAll at hy
  have e1 : (Classical.choice ops_ne).eqI 10 0 = false := by simp [Ops.all]
  have e2 : (Classical.choice ops_ne).leI 2 10 = true := by simp [Ops.all]
  have e3 : (Classical.choice ops_ne).leI 10 36 = true := by simp [Ops.all]
  have e4 : (Classical.choice ops_ne).eqI 4 0 = false := by simp [Ops.all]
  have e5 : (Classical.choice ops_ne).ltI 4 0 = false := by simp [Ops.all]
  have e6 : (Classical.choice ops_ne).ltI 64 4 = false := by simp [Ops.all]
  have e7 : (Classical.choice ops_ne).eqI 10 10 = true := by simp [Ops.all]
  refine run31 0 (fun _ => false) 90 (by simp) (fun S' hS => ?_) (fun _ _ _ => rfl)
  unfold xc31
  cbv
  split <;> rename_i hc
  · simp only [Ops.all, decide_eq_true_eq] at hc
    rw [if_pos hc] at hy
    injection hy with h1 h2
    subst h1; subst h2
    rw [← hz]; unfold puErr
    cbv
  · simp only [Ops.all, decide_eq_false_iff_not] at hc
    rw [if_neg hc] at hy
    cbv
    simp only [e2]
    cbv
    simp only [e3]
    cbv
    simp only [e4]
    cbv
    simp only [e5]
    cbv
    simp only [e6]
    cbv
    simp only [e7]
    cbv
    refine ⟨⟨by simp only [Ops.all, wraps]; omega⟩, ?_⟩
    refine VK_loop (α := Int × Int) (fun p => 0 ≤ p.1 ∧ p.1.toNat ≤ s.length ∧ 0 ≤ p.2 ∧ p.2 ≤ 15 ∧ pu p.2 (s.drop p.1.toNat) = (y1, y2))
      (fun p => ⟨[(1, .i .i64 10), (8, .b false), (10, .i .u64 1844674407370955162), (11, .i .u64 15), (12, .b false), (13, .i .u64 p.2), (99, .ow 200 (.int .u8) 0 (ln s)), (100, .i .i64 (ln s)), (101, .i .i64 p.1)], [(200, .row (.int .u8) s)]⟩) (fun p => (s.length - p.1.toNat)) ?_ ⟨(0, 0), ⟨by simp, by simp, by simp, by simp, by simpa using hy⟩, ?_⟩
    · rintro ⟨i, n⟩ ⟨h1, h2, h3, h4, h5⟩
      simp only at h1 h2 h3 h4 h5
      refine hS.run 60 ?_
      cbv
      split <;> rename_i hi
      · simp only [Ops.all, decide_eq_true_eq] at hi
        have hi : i < (s.length : Int) := hi
        have hq : i.toNat < s.length := by omega
        have hd : s.drop i.toNat = s.getD i.toNat 0 :: s.drop (i.toNat + 1) := by
          rw [List.drop_eq_getElem_cons hq, List.getD_eq_getElem?_getD, List.getElem?_eq_getElem hq]; rfl
        have hb : 0 ≤ s.getD i.toNat 0 ∧ s.getD i.toNat 0 ≤ 255 := by
          rw [List.getD_eq_getElem?_getD, List.getElem?_eq_getElem hq]
          exact hF.s.2 _ (List.getElem_mem hq)
        rw [hd] at h5
        simp only [pu] at h5
        obtain ⟨c, hcd⟩ : ∃ c, c = s.getD i.toNat 0 := ⟨_, rfl⟩
        rw [← hcd] at h5 hb
        have hgt : (Classical.choice ops_ne).gt s ((Classical.choice ops_ne).adI 0 i) 0 = c := by simp [Ops.all, hcd]
        clear hcd hd
        cbv
        refine ⟨⟨by simp only [Ops.all]; exact ⟨h1, hi⟩⟩, ⟨by simp only [Ops.all, defs]; omega⟩, ?_⟩
        simp only [hgt]
        by_cases hdg : 48 ≤ c ∧ c ≤ 57
        · have d1 : (Classical.choice ops_ne).eqI c 95 = false := by simp [Ops.all]; omega
          have d2 : (Classical.choice ops_ne).leI 48 c = true := by simp [Ops.all]; omega
          have d3 : (Classical.choice ops_ne).leI c 57 = true := by simp [Ops.all]; omega
          simp only [d1]
          cbv
          simp only [d2]
          cbv
          simp only [d3]
          cbv
          have w10 : IntKind.u8.wrap 10 = 10 := rfl
          have wd : IntKind.u8.wrap (c - 48) = c - 48 := by rw [wraps.1]; omega
          have d4 : (Classical.choice ops_ne).leI ((Classical.choice ops_ne).wr .u8 10) ((Classical.choice ops_ne).wr .u8 ((Classical.choice ops_ne).sbI c 48)) = false := by simp only [Ops.all, w10, wd, decide_eq_false_iff_not]; omega
          simp only [d4]
          cbv
          have d5 : (Classical.choice ops_ne).leI 1844674407370955162 n = false := by simp only [Ops.all, decide_eq_false_iff_not]; omega
          simp only [d5]
          cbv
          have w64 : IntKind.u64.wrap 10 = 10 := rfl
          have wm : IntKind.u64.wrap (n * 10) = n * 10 := by rw [wraps.2.2.2.1]; omega
          have wc : IntKind.u64.wrap (c - 48) = c - 48 := by rw [wraps.2.2.2.1]; omega
          have ws : IntKind.u64.wrap (n * 10 + (c - 48)) = n * 10 + (c - 48) := by rw [wraps.2.2.2.1]; omega
          have d6 : (Classical.choice ops_ne).wr .u64 ((Classical.choice ops_ne).adI ((Classical.choice ops_ne).wr .u64 ((Classical.choice ops_ne).mlI n ((Classical.choice ops_ne).wr .u64 10))) ((Classical.choice ops_ne).wr .u64 ((Classical.choice ops_ne).wr .u8 ((Classical.choice ops_ne).sbI c 48)))) = n * 10 + (c - 48) := by
            simp only [Ops.all, w64, wm, wd, wc, ws]
          have d7 : (Classical.choice ops_ne).wr .u64 ((Classical.choice ops_ne).mlI n ((Classical.choice ops_ne).wr .u64 10)) = n * 10 := by
            simp only [Ops.all, w64, wm]
          rw [if_pos hdg] at h5
          obtain ⟨q, hq1⟩ : ∃ q, q = n * 10 + (c - 48) := ⟨_, rfl⟩
          obtain ⟨p, hp1⟩ : ∃ p, p = n * 10 := ⟨_, rfl⟩
          rw [← hq1] at h5 d6
          rw [← hp1] at d7
          simp only [d6]
          simp only [d7]
          have d8 : (Classical.choice ops_ne).ltI q p = false := by simp only [Ops.all, decide_eq_false_iff_not]; omega
          simp only [d8]
          cbv
          split <;> rename_i hbg
          · simp only [Ops.all, decide_eq_true_eq] at hbg
            rw [if_pos hbg] at h5
            injection h5 with h6 h7
            subst h6; subst h7
            unfold puErr at hz
            simp only [show ¬ ((1 : Int) = 0) from by decide, if_false] at hz
            subst hz
            cbv
          · simp only [Ops.all, decide_eq_false_iff_not] at hbg
            rw [if_neg hbg] at h5
            cbv
            refine ⟨(i + 1, q), ⟨by simp; omega, by simp; omega, by simp; omega, by simp; omega, ?_⟩, by simp; omega, ?_⟩
            · simp only [show (i + 1).toNat = i.toNat + 1 from by omega]
              exact h5
            · generalize hj : i + 1 = j
              refine Wk.rn [(200, 200)] (by cbv) ?_ ?_
              · cbv
                simp only [Ops.all, wraps, true_and, and_true, V.i.injEq]
                omega
              · cbv; try trivial
        · rw [if_neg hdg] at h5
          injection h5 with h6 h7
          subst h6; subst h7
          unfold puErr at hz
          simp only [show ¬ ((2 : Int) = 0) from by decide, if_false] at hz
          subst hz
          have tail : True := trivial
          rcases Bool.eq_false_or_eq_true ((Classical.choice ops_ne).eqI c 95) with e | e <;> simp only [e] <;> cbv
          all_goals (rcases Bool.eq_false_or_eq_true ((Classical.choice ops_ne).leI 48 c) with f | f <;> simp only [f] <;> cbv)
          all_goals (try (
            have f' : (Classical.choice ops_ne).leI c 57 = false := by
              simp only [Ops.all, decide_eq_true_eq, decide_eq_false_iff_not] at f ⊢; omega
            simp only [f']
            cbv))
          all_goals (refine ⟨_, _, _, hS.sim (c36 _), ?_⟩)
          all_goals (
            generalize hlw : bitI .or .u8 c 32 = lw
            cbv
            rcases Bool.eq_false_or_eq_true ((Classical.choice ops_ne).leI 97 lw) with g | g <;> simp only [g] <;> cbv)
          all_goals (refine ⟨_, _, _, hS.sim (c36 _), ?_⟩)
          all_goals (
            rw [hlw]
            cbv
            rcases Bool.eq_false_or_eq_true ((Classical.choice ops_ne).leI lw 122) with h | h <;> simp only [h] <;> cbv)
          all_goals (refine ⟨_, _, _, hS.sim (c36 _), ?_⟩)
          all_goals (
            rw [hlw]
            cbv
            have big : (Classical.choice ops_ne).leI ((Classical.choice ops_ne).wr .u8 10) ((Classical.choice ops_ne).wr .u8 ((Classical.choice ops_ne).adI ((Classical.choice ops_ne).wr .u8 ((Classical.choice ops_ne).sbI lw 97)) 10)) = true := by
              simp only [Ops.all, wraps, decide_eq_true_eq] at g h ⊢; omega
            simp only [big]
            cbv)
      · cbv
        refine hS.run 60 ?_
        cbv
        simp only [Ops.all, decide_eq_false_iff_not] at hi
        have hi : ¬ i < (s.length : Int) := hi
        rw [List.drop_eq_nil_of_le (by omega)] at h5
        simp only [pu] at h5
        injection h5 with h6 h7
        subst h6; subst h7
        rw [← hz]; unfold puErr
        cbv
    · refine Wk.rn [(6400, 200)] (by cbv) ?_ ?_
      · cbv
        simp [Ops.all, shB, wraps, IntKind.bits]
      · cbv; try trivial
end GoX
/- Contracts: changes of texts. -/
set_option autoImplicit false
set_option maxRecDepth 100000
namespace GoX
open Go GoX.M

theorem pu_err (n : Int) (s : Bs) : (pu n s).2 = 0 ∨ (pu n s).2 = 1 ∨ (pu n s).2 = 2 := by
  induction s generalizing n with
  | nil => left; rfl
  | cons c s ih =>
    simp only [pu]
    split
    · split
      · right; left; rfl
      · exact ih _
    · right; right; rfl
theorem puAll_err (s : Bs) : (puAll s).2 = 0 ∨ (puAll s).2 = 1 ∨ (puAll s).2 = 2 := by
  unfold puAll; split
  · right; right; rfl
  · exact pu_err 0 s

/-- what a text that is no number comes to: an error. -/
theorem c230 (s : Bs) (n : Int) (hs : puAll s = (n, 0)) : Sim S.P 23 [.s s, .i .i64 10, .i .i64 4] [] [] (.val (.tup [.i .u64 n, .ni])) [] := by
  refine run23 0 (fun _ => false) 50 (by simp) (fun S' hS => ?_) (fun _ _ _ => rfl)
  unfold xc23
  cbv
  refine ⟨_, _, _, hS.sim (c31 _), ?_⟩
  rw [hs, show puErr 0 = .ni from rfl]
  cbv

theorem c231 (s : Bs) (n e : Int) (hb : s.length ≤ 4294967296) (hs : puAll s = (n, e)) (he : e = 1 ∨ e = 2) : Sim S.P 23 [.s s, .i .i64 10, .i .i64 4] [] [] (.val (.tup [.i .u64 n, .ifc 71 (.pt 32 0)])) (numErr [80, 97, 114, 115, 101, 85, 105, 110, 116] s) := by
  refine run23 0 (fun _ => false) 50 (by simp) (fun S' hS => ?_) (fun id h _ => by unfold numErr; simp only [lk]; rw [if_neg (by omega)])
  unfold xc23 numErr
  cbv
  refine ⟨_, _, _, hS.sim (c31 _), ?_⟩
  rw [hs, show puErr e = .ifc 67 (.i .i64 e) from by unfold puErr; rw [if_neg (by omega)]]
  cbv
  refine ⟨_, _, _, hS.sim (c32 _ _ _ _ _ hb he), ?_⟩
  unfold numErr
  cbv
end GoX
/- Contracts: changes of texts. -/
set_option autoImplicit false
set_option maxRecDepth 100000
namespace GoX
open Go GoX.M

def restOf (s : Bs) : Bs := if hasPre s [43] then s.drop 1 else if hasPre s [45] then s.drop 1 else s
/-- the change of a text. -/
def rollParse (s : Bs) : Change × Int :=
  if (puAll (restOf s)).2 = 0 ∧ chText ⟨hasPre s [43], (puAll (restOf s)).1⟩ = s then (⟨hasPre s [43], (puAll (restOf s)).1⟩, 0) else (⟨false, 0⟩, 4)

theorem pu_le (n : Int) (s : Bs) (h0 : 0 ≤ n) (h : n ≤ 15) : 0 ≤ (pu n s).1 ∧ (pu n s).1 ≤ 15 := by
  induction s generalizing n with
  | nil => exact ⟨h0, h⟩
  | cons c s ih =>
    simp only [pu]
    split
    · split
      · exact ⟨by simp, by simp⟩
      · exact ih _ (by omega) (by omega)
    · exact ⟨by simp, by simp⟩
theorem puAll_le (s : Bs) : 0 ≤ (puAll s).1 ∧ (puAll s).1 ≤ 15 := by
  unfold puAll; split
  · exact ⟨by simp, by simp⟩
  · exact pu_le 0 s (by omega) (by omega)

theorem c13 (s : Bs) (hb : s.length ≤ 4294967296) : Sim S.P 13 [.s s] [] [] (.val (.tup [vChange (rollParse s).1, .i .i64 (rollParse s).2])) [] := by
  generalize hy : rollParse s = y
  obtain ⟨⟨y1, y2⟩, y3⟩ := y
  unfold rollParse at hy
  have hrl : (restOf s).length ≤ 4294967296 := by
    unfold restOf
    split
    · simp; omega
    · split
      · simp; omega
      · exact hb
  generalize hrest : restOf s = rest at *
  unfold restOf at hrest
  generalize hadd : hasPre s [43] = add at *
  have hle := puAll_le rest
  have her := puAll_err rest
  generalize hpu : puAll rest = pr at *
  obtain ⟨n, e⟩ := pr
  simp only at hle her hy
  have hw : IntKind.u8.wrap n = n := by rw [wraps.1]; omega
  refine run13 0 (fun _ => false) 60 (by simp) (fun S' hS => ?_) (fun _ _ _ => rfl)
  unfold xc13
  cbv
  refine ⟨_, _, _, hS.sim (c21 _ _), ?_⟩
  rw [hadd]
  generalize hd : s.drop ([43] : Bs).length = d
  have hd' : s.drop 1 = d := hd
  rw [hd'] at hrest
  have main : ∀ (add' : Bool) (t : St), True := fun _ _ => trivial
  cases add
  · cbv
    refine ⟨_, _, _, hS.sim (c22 _ _), ?_⟩
    rw [show s.drop ([45] : Bs).length = d from hd', show (if hasPre s [45] = true then d else s) = rest from by simpa using hrest]
    cbv
    by_cases he : e = 0
    · subst he
      refine ⟨_, _, _, hS.sim (c230 _ n hpu), ?_⟩
      cbv
      have e1 : (Classical.choice ops_ne).wr .u8 n = n := by simp only [Ops.all, hw]
      simp only [e1]
      refine ⟨_, _, _, hS.sim (c14 ⟨false, n⟩ (by simp only; omega)), ?_⟩
      generalize chText ⟨false, n⟩ = t at *
      cbv
      split <;> rename_i h0
      · have h0' : ¬ t = s := by intro h; subst h; simp [Ops.all] at h0
        rw [if_neg (fun h => h0' h.2)] at hy
        simp only [Prod.mk.injEq, Change.mk.injEq] at hy
        obtain ⟨⟨rfl, rfl⟩, rfl⟩ := hy
        cbv
      · have h0' : t = s := by
          by_cases h : t = s
          · exact h
          · exfalso; simp [Ops.all, h] at h0
        rw [if_pos ⟨rfl, h0'⟩] at hy
        simp only [Prod.mk.injEq, Change.mk.injEq] at hy
        obtain ⟨⟨rfl, rfl⟩, rfl⟩ := hy
        cbv
    · refine ⟨_, _, _, hS.sim (c231 _ n e hrl hpu (by omega)), ?_⟩
      unfold numErr
      cbv
      rw [if_neg (fun h => he h.1)] at hy
      simp only [Prod.mk.injEq, Change.mk.injEq] at hy
      obtain ⟨⟨rfl, rfl⟩, rfl⟩ := hy
      trivial
  · simp only [if_true] at hrest
    subst hrest
    cbv
    by_cases he : e = 0
    · subst he
      refine ⟨_, _, _, hS.sim (c230 _ n hpu), ?_⟩
      cbv
      have e1 : (Classical.choice ops_ne).wr .u8 n = n := by simp only [Ops.all, hw]
      simp only [e1]
      refine ⟨_, _, _, hS.sim (c14 ⟨true, n⟩ (by simp only; omega)), ?_⟩
      generalize chText ⟨true, n⟩ = t at *
      cbv
      split <;> rename_i h0
      · have h0' : ¬ t = s := by intro h; subst h; simp [Ops.all] at h0
        rw [if_neg (fun h => h0' h.2)] at hy
        simp only [Prod.mk.injEq, Change.mk.injEq] at hy
        obtain ⟨⟨rfl, rfl⟩, rfl⟩ := hy
        cbv
      · have h0' : t = s := by
          by_cases h : t = s
          · exact h
          · exfalso; simp [Ops.all, h] at h0
        rw [if_pos ⟨rfl, h0'⟩] at hy
        simp only [Prod.mk.injEq, Change.mk.injEq] at hy
        obtain ⟨⟨rfl, rfl⟩, rfl⟩ := hy
        cbv
    · refine ⟨_, _, _, hS.sim (c231 _ n e hrl hpu (by omega)), ?_⟩
      unfold numErr
      cbv
      rw [if_neg (fun h => he h.1)] at hy
      simp only [Prod.mk.injEq, Change.mk.injEq] at hy
      obtain ⟨⟨rfl, rfl⟩, rfl⟩ := hy
      trivial
end GoX
/- The laws' own beginnings. -/
set_option autoImplicit false
set_option maxRecDepth 100000
namespace GoX
open Go GoX.M

theorem c6 : Sim S.P 6 [] [] [] (.val (.b true)) [] := by
  refine run6 0 (fun _ => false) 60 (by simp) (fun S' hS => ?_) (fun _ _ _ => rfl)
  unfold xc6
  cbv
  refine ⟨_, _, _, hS.sim (c10 ⟨0, 3⟩ ⟨true, 3⟩), ?_⟩
  rw [show rollApply ⟨0, 3⟩ ⟨true, 3⟩ = (⟨1, 11⟩, 0) from by decide +kernel]
  cbv
  refine ⟨_, _, _, hS.sim (c13 _ (by simp)), ?_⟩
  rw [show rollParse [45, 49, 53] = (⟨false, 15⟩, 0) from by decide +kernel]
  cbv
  refine ⟨_, _, _, hS.sim (c13 _ (by simp)), ?_⟩
  rw [show rollParse [43, 48, 51] = (⟨false, 0⟩, 4) from by decide +kernel]
  cbv
  iterate 5 (simp only [Ops.all]; cbv)
  refine ⟨_, _, _, hS.sim (c14 ⟨false, 15⟩ (by simp)), ?_⟩
  rw [show chText ⟨false, 15⟩ = [45, 49, 53] from by decide +kernel]
  cbv
  simp only [Ops.all]
  cbv
  refine ⟨_, _, _, hS.sim (c12 ⟨1, 11⟩), ?_⟩
  rw [show rollRight ⟨1, 11⟩ = true from by decide +kernel]
  cbv
end GoX
/- The statement on paths. -/
set_option autoImplicit false
set_option maxRecDepth 100000
namespace GoX
open Go GoX.M

theorem steps_len (r : Roll) (l : List Change) : (steps r l).length ≤ l.length + 1 := by
  induction l generalizing r with
  | nil => simp [steps]
  | cons c l ih =>
    simp only [steps, List.length_cons]
    split
    · have := ih (rollApply r c).1; omega
    · simp
theorem rollPath_len (r : Roll) (l : List Change) : (rollPath r l).length ≤ l.length + 1 := by
  unfold rollPath; split
  · exact steps_len r l
  · simp

theorem c3 (r : Roll) (l : List Change) : Sim S.P 3 [vRoll r, .sl .change l] [] [] (.val (.b true)) [] := by
  refine Sim.facts (fun hA _ => ?_) (fun _ _ _ => rfl)
  obtain ⟨v, m⟩ := r
  refine run3 0 (fun _ => false) 60 (by simp) (fun S' hS => ?_) (fun _ _ _ => rfl)
  unfold xc3
  cbv
  refine ⟨_, _, _, hS.sim c6, ?_⟩
  cbv
  split <;> rename_i hc
  · cbv
  · simp only [Ops.all, decide_eq_false_iff_not] at hc
    have hl : l.length ≤ 100 := by omega
    cbv
    refine ⟨_, _, _, hS.sim (c8 _ (by omega)), ?_⟩
    cbv
    refine ⟨_, _, _, hS.sim (c7 ⟨v, m⟩ _ (by omega)), ?_⟩
    have hpl := rollPath_len ⟨v, m⟩ l
    generalize hp : rollPath ⟨v, m⟩ l = p at *
    cbv
    refine ⟨_, _, _, hS.sim (c9 ⟨v, m⟩ _ (by omega)), ?_⟩
    rw [hp]
    cbv
    split <;> rename_i h0
    · exfalso; simp [Ops.all] at h0
    · cbv
      refine VK_loop (α := Int) (fun i => 0 ≤ i) (fun i => ⟨[(5, .sl .roll p), (6, .sl .roll p), (26, .i .i64 (ln p)), (27, .i .i64 i)], []⟩) (fun i => p.length - i.toNat) ?_ ⟨0, by simp, ?_⟩
      · intro i h1
        refine hS.run 60 ?_
        cbv
        split <;> rename_i hi
        · simp only [Ops.all, decide_eq_true_eq] at hi
          have hi : i < (p.length : Int) := hi
          have hq : i.toNat < p.length := by omega
          cbv
          have same : ∀ x : Int, (Classical.choice ops_ne).eqI x x = true := fun x => by simp [Ops.all]
          refine ⟨⟨by simp only [defs]; exact ⟨h1, hi⟩⟩, ⟨by simp only [defs]; exact ⟨h1, hi⟩⟩, ?_⟩
          simp only [same]
          cbv
          refine ⟨i + 1, by omega, by omega, ?_⟩
          generalize hj : i + 1 = j
          refine Wk.rn [] rfl ?_ (by cbv)
          cbv
          simp only [Ops.all, wraps, true_and, and_true, V.i.injEq]
          omega
        · cbv
          refine hS.run 60 ?_
          cbv
      · exact Wk.rn [] rfl (by cbv; simp [Ops.all]) (by cbv)
end GoX
/- The listed variables of the seat r1; a law of the seat, from its contract to its row and its card. -/
set_option autoImplicit false
set_option maxRecDepth 100000
namespace GoX
open Go Go.Proofs

def laidR : List (String × DataW Unit) := [("math/bits.deBruijn32tab", YtfeohgeipcjbnaaDoor.Rows.laid_math_bits_deBruijn32tab), ("math/bits.deBruijn64tab", YtfeohgeipcjbnaaDoor.Rows.laid_math_bits_deBruijn64tab), ("internal/strconv.uint64pow10", YtfeohgeipcjbnaaDoor.Rows.laid_internal_strconv_uint64pow10), ("strconv.ErrRange", YtfeohgeipcjbnaaDoor.Rows.laid_strconv_ErrRange), ("strconv.ErrSyntax", YtfeohgeipcjbnaaDoor.Rows.laid_strconv_ErrSyntax)]

theorem own1 : ownKnob Tryd.prog.godebug = none := by kernel_rfl

theorem glob_of {w : World} (h : laidMetH Tryd.prog laidR w) : Glob (allI w) w := by
  have hp : (laidR.any fun x => x.2.handleName?.isSome) = false := by kernel_rfl
  intro g cs hg
  unfold globs at hg
  simp only [lk] at hg
  split at hg
  · rename_i e; subst e; injection hg with hg; subst hg
    exact glob_ifc h hp (i := 4) (t := 60) rfl (by kernel_rfl) (by kernel_rfl) Tryd.underlying60 _
  split at hg
  · rename_i e; subst e; injection hg with hg; subst hg
    exact glob_ifc h hp (i := 3) (t := 60) rfl (by kernel_rfl) (by kernel_rfl) Tryd.underlying60 _
  split at hg
  · rename_i e; subst e; injection hg with hg; subst hg
    exact glob_ints h hp (i := 0) (t := 96) (e := 5) rfl (by kernel_rfl) (by kernel_rfl) Tryd.underlying96 Tryd.underlying5 (by kernel_rfl) (by kernel_rfl) (by decide)
  · cases hg

theorem door_met (os : Os) (args : Array Value) : laidMetH Tryd.prog laidR ((World.doorLaid Tryd.prog 100000 os).forCall (fun _ _ => 0) ⟨#[], args, []⟩).memory :=
  laidMetH_of_parts3 (fuel := 64) (laidMet_of_run' 64 (by kernel_rfl) (by kernel_rfl)) (by kernel_rfl) (by kernel_rfl)
end GoX
