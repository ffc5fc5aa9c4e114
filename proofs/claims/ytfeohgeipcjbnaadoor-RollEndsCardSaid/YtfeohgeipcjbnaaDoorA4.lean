/- Joined by a program (merge.py) out of own texts: C7 C8 C9 C10 C11 C12 C13 C14 C15 C16 J3 J3b C17 C18 C19 C20. -/
import Derived.Test.YtfeohgeipcjbnaaDoorA3
import Derived.Test.YtfeohgeipcjbnaaDoorTie
import Derived.Test.YtfeohgeipcjbnaaDoorCards
import Derived.SevenTiedAt
set_option linter.unusedSimpArgs false
set_option linter.unusedVariables false
/- Contracts: paths of views. -/
set_option autoImplicit false
set_option maxRecDepth 100000
namespace GoX
open Go GoX.M

/-- Path -/
theorem c7 (r : Roll) (l : List Change) (hl : l.length ≤ 1000) : Sim S.P 7 [vRoll r, .sl .change l] [] [] (.val (.sl .roll (rollPath r l))) [] := by
  generalize hy : rollPath r l = y
  unfold rollPath at hy
  obtain ⟨v, m⟩ := r
  refine run7 0 (fun id => id == 200) 50 (by simp) (fun S' hS => ?_) (fun _ _ _ => rfl)
  unfold xc7
  cbv
  refine ⟨_, _, _, hS.sim (c12 ⟨v, m⟩), ?_⟩
  generalize hrr : rollRight ⟨v, m⟩ = rr at *
  cases rr
  · cbv
    exact ⟨by simpa using hy.symm, trivial⟩
  · cbv
    refine VK_loop (α := Int × List Roll) (fun p => 0 ≤ p.1 ∧ p.1.toNat ≤ l.length ∧ p.2.length = p.1.toNat + 1 ∧ p.2.dropLast ++ steps (p.2.getLastD ⟨0, 0⟩) (l.drop p.1.toNat) = y)
      (fun p => ⟨[(5, .ow 200 .roll 0 (ln p.2)), (15, .sl .change l), (16, .i .i64 (ln l)), (17, .i .i64 p.1)], [(200, .row .roll p.2)]⟩) (fun p => (l.length - p.1.toNat)) ?_ ⟨(0, [⟨v, m⟩]), ⟨by simp, by simp, by simp, by simpa using hy⟩, ?_⟩
    · rintro ⟨i, acc⟩ ⟨h1, h2, h3, h4⟩
      simp only at h1 h2 h3 h4
      refine hS.run 50 ?_
      cbv
      split <;> rename_i hi
      · simp only [Ops.all, decide_eq_true_eq] at hi
        have hi : i < (l.length : Int) := hi
        have hq : i.toNat < l.length := by omega
        have hacc : acc.length - 1 = i.toNat := by omega
        have hw : IntKind.i64.wrap ((acc.length : Int) - 1) = i := by rw [wraps.2.2.2.2]; omega
        cbv
        refine ⟨⟨by simp only [defs]; exact ⟨h1, hi⟩⟩, ⟨by simp only [Ops.all, hw]; omega⟩, ⟨by simp only [Ops.all, defs, hw]; omega⟩, ?_⟩
        refine ⟨_, _, _, hS.sim (c10 _ _), ?_⟩
        have hne : acc ≠ [] := by intro h; rw [h] at h3; simp at h3
        generalize hra : rollApply _ _ = ra
        simp only [Ops.all, hw, Int.zero_add] at hra
        have hlast : acc.getD i.toNat ⟨0, 0⟩ = acc.getLastD ⟨0, 0⟩ := by
          rw [List.getLastD_eq_getLast?, List.getLast?_eq_getElem?, hacc, List.getD_eq_getElem?_getD]
        have hd : l.drop i.toNat = l.getD i.toNat ⟨false, 0⟩ :: l.drop (i.toNat + 1) := by
          rw [List.drop_eq_getElem_cons hq, List.getD_eq_getElem?_getD, List.getElem?_eq_getElem hq]; rfl
        rw [hlast] at hra
        rw [hd] at h4
        simp only [steps] at h4
        rw [hra] at h4
        obtain ⟨⟨a1, a2⟩, a3⟩ := ra
        have hfin : acc.dropLast ++ [acc.getLastD ⟨0, 0⟩] = acc := by
          rw [show acc.getLastD ⟨0, 0⟩ = acc.getLast hne from by rw [List.getLastD_eq_getLast?, List.getLast?_eq_some_getLast hne]; rfl, List.dropLast_concat_getLast]
        clear hra
        cbv
        split <;> rename_i h0
        · have h0' : ¬ a3 = 0 := by intro h; subst h; simp [Ops.all] at h0
          simp only [h0', if_false] at h4
          rw [hfin] at h4
          cbv
          refine hS.run 50 ?_
          cbv
          simp only [Ops.all, defs]
          refine ⟨⟨by simp⟩, ?_, trivial⟩
          rw [← h4]; simp
        · have h0' : a3 = 0 := by
            by_cases h : a3 = 0
            · exact h
            · exfalso; simp [Ops.all, h] at h0
          subst h0'
          simp only [if_true] at h4
          cbv
          refine ⟨⟨by simp [defs]⟩, ⟨by simp [Ops.all, defs], ⟨by simp [Ops.all, defs]; omega⟩⟩, ?_⟩
          refine ⟨(i + 1, acc ++ [⟨a1, a2⟩]), ⟨by simp; omega, by simp; omega, by simp; omega, ?_⟩, by simp; omega, ?_⟩
          · simp only [List.dropLast_concat, List.getLastD_concat]
            rw [← h4, show (i + 1).toNat = i.toNat + 1 from by omega]
            conv => lhs; rw [← hfin]
            simp
          · generalize hj : i + 1 = j
            generalize hk : acc ++ [⟨a1, a2⟩] = k
            refine Wk.rn [(2432, 200)] (by cbv) ?_ ?_
            · cbv
              simp only [Ops.all, defs, wraps, true_and, and_true, V.i.injEq, V.ow.injEq]
              rw [← hk]
              refine ⟨by simp, by omega⟩
            · cbv
              simp only [Ops.all, defs, wraps, true_and, and_true, XObj.row.injEq, heq_eq_eq]
              rw [← hk]
              simp
      · cbv
        refine hS.run 50 ?_
        cbv
        simp only [Ops.all, defs, decide_eq_false_iff_not] at hi ⊢
        refine ⟨⟨by simp⟩, ?_, trivial⟩
        have hi : ¬ i < (l.length : Int) := hi
        have e : l.drop i.toNat = [] := List.drop_eq_nil_of_le (by omega)
        rw [e] at h4
        have hne : acc ≠ [] := by intro h; rw [h] at h3; simp at h3
        rw [show steps (acc.getLastD ⟨0, 0⟩) [] = [acc.getLastD ⟨0, 0⟩] from rfl] at h4
        rw [show acc.getLastD ⟨0, 0⟩ = acc.getLast hne from by rw [List.getLastD_eq_getLast?, List.getLast?_eq_some_getLast hne]; rfl, List.dropLast_concat_getLast] at h4
        rw [← h4]; simp
    · refine Wk.rn [(960, 200)] (by cbv) ?_ ?_
      · cbv
        simp [Ops.all]
      · cbv; try trivial
end GoX
/- Contracts: the document's paths of views. -/
set_option autoImplicit false
set_option maxRecDepth 100000
namespace GoX
open Go GoX.M

/-- the document's Path -/
theorem c9 (r : Roll) (l : List Change) (hl : l.length ≤ 1000) : Sim S.P 9 [vRoll r, .sl .change l] [] [] (.val (.sl .roll (rollPath r l))) [] := by
  generalize hy : rollPath r l = y
  unfold rollPath at hy
  obtain ⟨v0, m0⟩ := r
  refine run9 0 (fun id => id == 200) 50 (by simp) (fun S' hS => ?_) (fun _ _ _ => rfl)
  unfold xc9
  cbv
  refine ⟨_, _, _, hS.sim (c15 ⟨v0, m0⟩), ?_⟩
  generalize hrr : rollRight ⟨v0, m0⟩ = rr at *
  cases rr
  · cbv
    exact ⟨by simpa using hy.symm, trivial⟩
  · cbv
    refine ⟨⟨by simp [defs]⟩, ⟨⟨by simp [defs, Ops.all]⟩⟩, ?_⟩
    refine VK_loop (α := Int × List Roll × Int × Int) (fun p => 0 ≤ p.1 ∧ p.1.toNat ≤ l.length ∧ ∃ pre, p.2.1 = pre ++ [⟨p.2.2.1, p.2.2.2⟩] ∧ pre.length = p.1.toNat ∧ pre ++ steps ⟨p.2.2.1, p.2.2.2⟩ (l.drop p.1.toNat) = y)
      (fun p => ⟨[(1, .sl .change l), (2, .pt 201 0), (5, .ow 200 .roll 0 (ln p.2.1)), (6, .i .i64 p.1)], [(200, .row .roll p.2.1), (201, .cells [.i .i64 p.2.2.1, .i .u16 p.2.2.2])]⟩) (fun p => (l.length - p.1.toNat)) ?_ ⟨(0, [⟨v0, m0⟩], v0, m0), ⟨by simp, by simp, [], by simp, by simp, by simpa using hy⟩, ?_⟩
    · rintro ⟨i, acc, v, m⟩ ⟨h1, h2, pre, h3, h4, h5⟩
      simp only at h1 h2 h3 h4 h5
      refine hS.run 50 ?_
      cbv
      split <;> rename_i hi
      · simp only [Ops.all, decide_eq_true_eq] at hi
        have hi : i < (l.length : Int) := hi
        have hq : i.toNat < l.length := by omega
        have hd : l.drop i.toNat = l.getD i.toNat ⟨false, 0⟩ :: l.drop (i.toNat + 1) := by
          rw [List.drop_eq_getElem_cons hq, List.getD_eq_getElem?_getD, List.getElem?_eq_getElem hq]; rfl
        have ha : acc.length = i.toNat + 1 := by rw [h3]; simp [h4]
        rw [hd] at h5
        simp only [steps] at h5
        cbv
        refine ⟨⟨by simp only [defs]; exact ⟨h1, hi⟩⟩, ?_⟩
        refine ⟨_, _, _, hS.sim (c16 ⟨v, m⟩ _), ?_⟩
        generalize hra : rollApply _ _ = ra
        simp only [Ops.all] at hra
        rw [hra] at h5
        obtain ⟨⟨a1, a2⟩, a3⟩ := ra
        clear hra
        cbv
        split <;> rename_i h0
        · have h0' : ¬ a3 = 0 := by intro h; subst h; simp [Ops.all] at h0
          simp only [h0', if_false] at h5
          cbv
          simp only [Ops.all, defs]
          refine ⟨⟨by simp⟩, ?_, trivial⟩
          rw [← h5, ← h3]; simp
        · have h0' : a3 = 0 := by
            by_cases h : a3 = 0
            · exact h
            · exfalso; simp [Ops.all, h] at h0
          subst h0'
          simp only [if_true] at h5
          cbv
          refine ⟨⟨by simp [defs]⟩, ⟨by simp [Ops.all, defs], ⟨by simp [Ops.all, defs]; omega⟩⟩, ?_⟩
          refine ⟨(i + 1, acc ++ [⟨a1, a2⟩], a1, a2), ⟨by simp; omega, by simp; omega, acc, by simp, by simp; omega, ?_⟩, by simp; omega, ?_⟩
          · simp only [show (i + 1).toNat = i.toNat + 1 from by omega]
            rw [← h5, h3]; simp
          · generalize hj : i + 1 = j
            generalize hk : acc ++ [⟨a1, a2⟩] = k
            refine Wk.rn [(2560, 200), (201, 201)] (by cbv) ?_ ?_
            · cbv
              simp only [Ops.all, defs, wraps, true_and, and_true, V.i.injEq, V.ow.injEq]
              rw [← hk]
              refine ⟨by simp, by omega⟩
            · cbv
              simp only [Ops.all, defs, wraps, true_and, and_true, XObj.row.injEq, heq_eq_eq]
              rw [← hk]
              simp
      · cbv
        refine hS.run 50 ?_
        cbv
        simp only [Ops.all, defs, decide_eq_false_iff_not] at hi ⊢
        refine ⟨⟨by simp⟩, ?_, trivial⟩
        have hi : ¬ i < (l.length : Int) := hi
        have e : l.drop i.toNat = [] := List.drop_eq_nil_of_le (by omega)
        rw [e] at h5
        simp only [steps] at h5
        rw [← h5, ← h3]; simp
    · refine Wk.rn [(1088, 200), (192, 201)] (by cbv) ?_ ?_
      · cbv
        simp [Ops.all, defs]
      · cbv
        simp [Ops.all, defs]
end GoX
/- Contracts: changes. -/
set_option autoImplicit false
set_option maxRecDepth 100000
namespace GoX
open Go GoX.M

/-- changes -/
theorem c8 (l : List Change) (hl : l.length ≤ 1000) : Sim S.P 8 [.sl .change l] [] [] (.val (.sl .change l)) [] := by
  refine run8 0 (fun id => id == 200) 50 (by simp) (fun S' hS => ?_) (fun _ _ _ => rfl)
  unfold xc8
  cbv
  refine VK_loop (α := Int × List Change) (fun p => 0 ≤ p.1 ∧ p.1.toNat ≤ l.length ∧ p.2 = l.take p.1.toNat)
    (fun p => ⟨[(3, .ow 200 .change 0 (ln p.2)), (6, .sl .change l), (7, .i .i64 (ln l)), (8, .i .i64 p.1)], [(200, .row .change p.2)]⟩) (fun p => (l.length - p.1.toNat)) ?_ ⟨(0, []), ⟨by simp, by simp, by simp⟩, ?_⟩
  · rintro ⟨i, acc⟩ ⟨h1, h2, h3⟩
    simp only at h1 h2 h3
    refine hS.run 50 ?_
    cbv
    split <;> rename_i hi
    · simp only [Ops.all, decide_eq_true_eq] at hi
      have hi : i < (l.length : Int) := hi
      have hq : i.toNat < l.length := by omega
      have ha : acc.length = i.toNat := by rw [h3, List.length_take]; omega
      have hg : l.getD i.toNat ⟨false, 0⟩ = l[i.toNat] := by rw [List.getD_eq_getElem?_getD, List.getElem?_eq_getElem hq]; rfl
      cbv
      refine ⟨⟨by simp only [defs]; exact ⟨h1, hi⟩⟩, ⟨by simp [defs]⟩, ⟨by simp [Ops.all, defs], ⟨by simp [Ops.all, defs]; omega⟩⟩, ?_⟩
      refine ⟨(i + 1, acc ++ [l.getD i.toNat ⟨false, 0⟩]), ⟨by simp; omega, by simp; omega, ?_⟩, by simp; omega, ?_⟩
      · simp only [show (i + 1).toNat = i.toNat + 1 from by omega]
        rw [h3, hg, List.take_append_getElem hq]
      · generalize hj : i + 1 = j
        generalize hk : acc ++ [l.getD i.toNat ⟨false, 0⟩] = k
        refine Wk.rn [(1024, 200)] (by cbv) ?_ ?_
        · cbv
          simp only [Ops.all, defs, wraps, true_and, and_true, V.i.injEq, V.ow.injEq]
          rw [← hk]
          refine ⟨by simp, by omega⟩
        · cbv
          simp only [Ops.all, defs, wraps, true_and, and_true, XObj.row.injEq, heq_eq_eq]
          rw [← hk]
          simp
    · cbv
      refine hS.run 50 ?_
      cbv
      simp only [Ops.all, defs, decide_eq_false_iff_not] at hi ⊢
      refine ⟨⟨by simp⟩, ?_, trivial⟩
      have hi : ¬ i < (l.length : Int) := hi
      have e : l.take i.toNat = l := List.take_of_length_le (by omega)
      rw [h3, e]; simp
  · refine Wk.trans (Wk.nsT 3 200 .change (by omega) (by cbv)) (Wk.rn [(200, 200)] (by cbv) ?_ ?_)
    · cbv
      simp [Ops.all]
    · cbv; try trivial
end GoX
/- Contracts: texts. -/
set_option autoImplicit false
set_option maxRecDepth 100000
namespace GoX
open Go GoX.M

def hasPre (s p : Bs) : Bool := decide (s.take p.length = p)
theorem hasPre_len {s p : Bs} (h : hasPre s p = true) : p.length ≤ s.length := by
  have h : s.take p.length = p := by simpa [hasPre] using h
  have := congrArg List.length h
  rw [List.length_take] at this
  omega

/-- HasPrefix -/
theorem c35 (s p : Bs) : Sim S.P 35 [.s s, .s p] [] [] (.val (.b (hasPre s p))) [] := by
  generalize hy : hasPre s p = y
  refine run35 0 (fun _ => false) 50 (by simp) (fun S' hS => ?_) (fun _ _ _ => rfl)
  unfold xc35
  cbv
  split <;> rename_i hc
  · have e := g1 hc
    simp only [e]
    simp only [Ops.all, decide_eq_true_eq] at e
    have e' : (p.length : Int) ≤ s.length := e
    have hq : p.length ≤ s.length := by omega
    cbv
    refine ⟨⟨by simp only [Ops.all, defs]; omega⟩, ?_⟩
    simp only [Ops.all, and_true, V.b.injEq]
    rw [← hy]; unfold hasPre; simp
  · have e := g0 hc
    simp only [e]
    simp only [Ops.all, decide_eq_false_iff_not] at e
    have e' : ¬ (p.length : Int) ≤ s.length := e
    have hq : ¬ hasPre s p = true := fun h => by have := hasPre_len h; omega
    cbv
    simp only [and_true, V.b.injEq]
    rw [← hy]; simpa using hq

/-- CutPrefix -/
theorem c29 (s p : Bs) : Sim S.P 29 [.s s, .s p] [] [] (.val (if hasPre s p then .tup [.s (s.drop p.length), .b true] else .tup [.s s, .b false])) [] := by
  generalize hy : hasPre s p = y
  cases y
  · simp only [Bool.false_eq_true, if_false]
    refine run29 0 (fun _ => false) 50 (by simp) (fun S' hS => ?_) (fun _ _ _ => rfl)
    unfold xc29
    cbv
    refine ⟨_, _, _, hS.sim (c35 _ _), ?_⟩
    rw [hy]
    cbv
  · have hl := hasPre_len hy
    generalize hd : s.drop p.length = d
    simp only [if_true]
    refine run29 0 (fun _ => false) 50 (by simp) (fun S' hS => ?_) (fun _ _ _ => rfl)
    unfold xc29
    cbv
    refine ⟨_, _, _, hS.sim (c35 _ _), ?_⟩
    rw [hy]
    cbv
    refine ⟨⟨by simp only [Ops.all, defs]; omega⟩, ?_⟩
    simp only [Ops.all, and_true, true_and, V.s.injEq]
    rw [← hd]; simp

/-- TrimPrefix -/
theorem c30 (s p : Bs) : Sim S.P 30 [.s s, .s p] [] [] (.val (.s (if hasPre s p then s.drop p.length else s))) [] := by
  generalize hy : hasPre s p = y
  cases y
  · simp only [Bool.false_eq_true, if_false]
    refine run30 0 (fun _ => false) 50 (by simp) (fun S' hS => ?_) (fun _ _ _ => rfl)
    unfold xc30
    cbv
    refine ⟨_, _, _, hS.sim (c35 _ _), ?_⟩
    rw [hy]
    cbv
  · have hl := hasPre_len hy
    generalize hd : s.drop p.length = d
    simp only [if_true]
    refine run30 0 (fun _ => false) 50 (by simp) (fun S' hS => ?_) (fun _ _ _ => rfl)
    unfold xc30
    cbv
    refine ⟨_, _, _, hS.sim (c35 _ _), ?_⟩
    rw [hy]
    cbv
    refine ⟨⟨by simp only [Ops.all, defs]; omega⟩, ?_⟩
    simp only [Ops.all, and_true, true_and, V.s.injEq]
    rw [← hd]; simp

theorem c21 (s p : Bs) : Sim S.P 21 [.s s, .s p] [] [] (.val (if hasPre s p then .tup [.s (s.drop p.length), .b true] else .tup [.s s, .b false])) [] := by
  generalize hd : s.drop p.length = d
  refine run21 0 (fun _ => false) 50 (by simp) (fun S' hS => ?_) (fun _ _ _ => rfl)
  unfold xc21
  generalize hy : hasPre s p = y
  cbv
  refine ⟨_, _, _, hS.sim (c29 _ _), ?_⟩
  rw [hy, hd]
  cases y <;> cbv

theorem c22 (s p : Bs) : Sim S.P 22 [.s s, .s p] [] [] (.val (.s (if hasPre s p then s.drop p.length else s))) [] := by
  generalize hd : s.drop p.length = d
  refine run22 0 (fun _ => false) 50 (by simp) (fun S' hS => ?_) (fun _ _ _ => rfl)
  unfold xc22
  generalize hy : hasPre s p = y
  cbv
  refine ⟨_, _, _, hS.sim (c30 _ _), ?_⟩
  rw [hy, hd]
  cases y <;> cbv
end GoX
/- Contracts: numbers as texts. -/
set_option autoImplicit false
set_option maxRecDepth 100000
namespace GoX
open Go GoX.M

/-- a small number's text. -/
def numText (n : Int) : Bs := if n < 10 then [48 + n] else [48 + n / 10, 48 + n % 10]

theorem numText_len (n : Int) : (numText n).length ≤ 2 := by unfold numText; split <;> simp

/-- small -/
theorem c45 (n : Int) (h0 : 0 ≤ n) (h1 : n < 100) : Sim S.P 45 [.i .i64 n] [] [] (.val (.s (numText n))) [] := by
  generalize hy : numText n = y
  refine run45 0 (fun _ => false) 50 (by simp) (fun S' hS => ?_) (fun _ _ _ => rfl)
  unfold xc45
  cbv
  split <;> rename_i hc
  · cbv
    simp only [Ops.all, decide_eq_true_eq] at hc
    have hw : IntKind.i64.wrap (n + 1) = n + 1 := by rw [wraps.2.2.2.2]; omega
    refine ⟨⟨by simp only [Ops.all, defs, hw, List.length_cons, List.length_nil]; omega⟩, ?_⟩
    simp only [Ops.all, hw, and_true, true_and, V.s.injEq]
    rw [← hy]
    have key : ∀ k : Fin 10, List.drop (k.val : Int).toNat (List.take ((k.val : Int) + 1).toNat [48, 49, 50, 51, 52, 53, 54, 55, 56, 57, 97, 98, 99, 100, 101, 102, 103, 104, 105, 106, 107, 108, 109, 110, 111, 112, 113, 114, 115, 116, 117, 118, 119, 120, 121, 122]) = numText (k.val : Int) := by decide
    have := key ⟨n.toNat, by omega⟩
    rw [show ((n.toNat : Nat) : Int) = n from by omega] at this
    exact this
  · cbv
    simp only [Ops.all, decide_eq_false_iff_not] at hc
    have hw : IntKind.i64.wrap (n * 2) = n * 2 := by rw [wraps.2.2.2.2]; omega
    have hw2 : IntKind.i64.wrap (n * 2 + 2) = n * 2 + 2 := by rw [wraps.2.2.2.2]; omega
    refine ⟨⟨by simp only [Ops.all, defs, hw, hw2, List.length_cons, List.length_nil]; omega⟩, ?_⟩
    simp only [Ops.all, hw, hw2, and_true, true_and, V.s.injEq]
    rw [← hy]
    have key : ∀ k : Fin 100, ¬ (k.val : Int) < 10 → List.drop ((k.val : Int) * 2).toNat (List.take ((k.val : Int) * 2 + 2).toNat [48, 48, 48, 49, 48, 50, 48, 51, 48, 52, 48, 53, 48, 54, 48, 55, 48, 56, 48, 57, 49, 48, 49, 49, 49, 50, 49, 51, 49, 52, 49, 53, 49, 54, 49, 55, 49, 56, 49, 57, 50, 48, 50, 49, 50, 50, 50, 51, 50, 52, 50, 53, 50, 54, 50, 55, 50, 56, 50, 57, 51, 48, 51, 49, 51, 50, 51, 51, 51, 52, 51, 53, 51, 54, 51, 55, 51, 56, 51, 57, 52, 48, 52, 49, 52, 50, 52, 51, 52, 52, 52, 53, 52, 54, 52, 55, 52, 56, 52, 57, 53, 48, 53, 49, 53, 50, 53, 51, 53, 52, 53, 53, 53, 54, 53, 55, 53, 56, 53, 57, 54, 48, 54, 49, 54, 50, 54, 51, 54, 52, 54, 53, 54, 54, 54, 55, 54, 56, 54, 57, 55, 48, 55, 49, 55, 50, 55, 51, 55, 52, 55, 53, 55, 54, 55, 55, 55, 56, 55, 57, 56, 48, 56, 49, 56, 50, 56, 51, 56, 52, 56, 53, 56, 54, 56, 55, 56, 56, 56, 57, 57, 48, 57, 49, 57, 50, 57, 51, 57, 52, 57, 53, 57, 54, 57, 55, 57, 56, 57, 57]) = numText (k.val : Int) := by decide +kernel
    have := key ⟨n.toNat, by omega⟩
    rw [show ((n.toNat : Nat) : Int) = n from by omega] at this
    exact this hc

theorem c42 (n : Int) (h0 : 0 ≤ n) (h1 : n < 100) : Sim S.P 42 [.i .i64 n, .i .i64 10] [] [] (.val (.s (numText n))) [] := by
  generalize hy : numText n = y
  refine run42 0 (fun _ => false) 50 (by simp) (fun S' hS => ?_) (fun _ _ _ => rfl)
  unfold xc42
  have e1 : (Classical.choice ops_ne).leI 0 n = true := by simp [Ops.all, h0]
  have e2 : (Classical.choice ops_ne).ltI n 100 = true := by simp [Ops.all, h1]
  have e0 : (Classical.choice ops_ne).eqI 10 10 = true := by simp [Ops.all]
  cbv
  simp only [e0]
  cbv
  simp only [e1]
  cbv
  simp only [e2]
  cbv
  refine ⟨_, _, _, hS.sim (c45 _ h0 h1), ?_⟩
  rw [hy]
  cbv

theorem c33 (n : Int) (h0 : 0 ≤ n) (h1 : n < 100) : Sim S.P 33 [.i .i64 n] [] [] (.val (.s (numText n))) [] := by
  refine run33 0 (fun _ => false) 50 (by simp) (fun S' hS => ?_) (fun _ _ _ => rfl)
  unfold xc33
  generalize hy : numText n = y
  cbv
  refine ⟨_, _, _, hS.sim (c42 _ h0 h1), ?_⟩
  rw [hy]
  cbv

theorem c24 (n : Int) (h0 : 0 ≤ n) (h1 : n < 100) : Sim S.P 24 [.i .i64 n] [] [] (.val (.s (numText n))) [] := by
  refine run24 0 (fun _ => false) 50 (by simp) (fun S' hS => ?_) (fun _ _ _ => rfl)
  unfold xc24
  generalize hy : numText n = y
  cbv
  refine ⟨_, _, _, hS.sim (c33 _ h0 h1), ?_⟩
  rw [hy]
  cbv

/-- a change's text. -/
def chText (c : Change) : Bs := (if c.add then 43 else 45) :: numText c.id

theorem c14 (c : Change) (h1 : c.id < 100) : Sim S.P 14 [vChange c] [] [] (.val (.s (chText c))) [] := by
  refine Sim.facts (fun hA _ => ?_) (fun _ _ _ => rfl)
  obtain ⟨add, id⟩ := c
  have hG : FactL [.b add, .i .u8 id] := hA (vChange ⟨add, id⟩) (by simp)
  have hid := rng_u8 hG.tail.head
  unfold chText
  simp only at h1 ⊢
  generalize hy : numText id = y
  have hw : IntKind.i64.wrap id = id := by rw [wraps.2.2.2.2]; omega
  cases add <;> simp only [Bool.false_eq_true, if_false, if_true] <;> (
    refine run14 0 (fun _ => false) 50 (by simp) (fun S' hS => ?_) (fun _ _ _ => rfl)
    unfold xc14
    cbv
    have e1 : (Classical.choice ops_ne).wr IntKind.i64 id = id := by simp only [Ops.all, hw]
    simp only [e1]
    refine ⟨_, _, _, hS.sim (c24 id (by omega) (by omega)), ?_⟩
    rw [hy]
    cbv
    have hl : y.length ≤ 2 := by rw [← hy]; exact numText_len id
    refine ⟨⟨by simp [defs]; omega⟩, ?_⟩
    simp [Ops.all])
end GoX
/- Contracts: errors of numbers' texts. -/
set_option autoImplicit false
set_option maxRecDepth 100000
namespace GoX
open Go GoX.M

/-- Clone -/
theorem c43 (s : Bs) (hb : s.length ≤ 4294967296) : Sim S.P 43 [.s s] [] [] (.val (.s s)) [] := by
  refine run43 0 (fun _ => false) 50 (by simp) (fun S' hS => ?_) (fun _ _ _ => rfl)
  unfold xc43
  cbv
  split <;> rename_i hc
  · cbv
    simp only [Ops.all, decide_eq_true_eq] at hc
    have : s = [] := List.eq_nil_of_length_eq_zero (by omega)
    exact ⟨by rw [this], trivial⟩
  · simp only [Ops.all, decide_eq_false_iff_not] at hc
    have hc' : s.length ≠ 0 := by intro h; exact hc (by omega)
    have hz : 0 < s.length := by omega
    cbv
    simp only [Ops.all, defs, Int.zero_add, Int.toNat_zero, List.take_zero, List.nil_append, Int.lt_irrefl, if_false, Int.toNat_natCast, List.take_length, List.drop_zero, List.length_append, List.length_replicate, List.length_drop]
    refine ⟨⟨by omega, ⟨by omega⟩⟩, ⟨trivial⟩, ⟨by omega, by omega⟩, ⟨by omega, by omega⟩, ⟨by omega, by omega⟩, ?_, trivial⟩
    simp

/-- what an error of a number's text is. -/
def numErr (fn s : Bs) : List (Nat × XObj) := [(32, .cells [.s fn, .s s, .ifc 85 .junk])]

theorem c38 (fn s : Bs) (hb : s.length ≤ 4294967296) : Sim S.P 38 [.s fn, .s s] [] [] (.val (.pt 32 0)) (numErr fn s) := by
  refine run38 0 (fun _ => false) 50 (by simp) (fun S' hS => ?_) (fun id h _ => by unfold numErr; simp only [lk]; rw [if_neg (by omega)])
  unfold xc38 numErr
  cbv
  refine ⟨_, _, _, hS.sim (c43 _ hb), ?_⟩
  cbv

theorem c39 (fn s : Bs) (hb : s.length ≤ 4294967296) : Sim S.P 39 [.s fn, .s s] [] [] (.val (.pt 32 0)) (numErr fn s) := by
  refine run39 0 (fun _ => false) 50 (by simp) (fun S' hS => ?_) (fun id h _ => by unfold numErr; simp only [lk]; rw [if_neg (by omega)])
  unfold xc39 numErr
  cbv
  refine ⟨_, _, _, hS.sim (c43 _ hb), ?_⟩
  cbv

/-- toError, of errors of syntax and of range -/
theorem c32 (fn s : Bs) (b z e : Int) (hb : s.length ≤ 4294967296) (he : e = 1 ∨ e = 2) : Sim S.P 32 [.s fn, .s s, .i .i64 b, .i .i64 z, .ifc 67 (.i .i64 e)] [] [] (.val (.ifc 71 (.pt 32 0))) (numErr fn s) := by
  refine run32 0 (fun _ => false) 50 (by simp) (fun S' hS => ?_) (fun id h _ => by unfold numErr; simp only [lk]; rw [if_neg (by omega)])
  unfold xc32
  unfold numErr
  have e12 : (Classical.choice ops_ne).eqI 1 2 = false := by simp [Ops.all]
  have e11 : (Classical.choice ops_ne).eqI 1 1 = true := by simp [Ops.all]
  have e22 : (Classical.choice ops_ne).eqI 2 2 = true := by simp [Ops.all]
  rcases he with rfl | rfl
  · cbv
    simp only [e12]
    cbv
    simp only [e11]
    cbv
    refine ⟨_, _, _, hS.sim (c39 _ _ hb), ?_⟩
    cbv
  · cbv
    simp only [e22]
    cbv
    refine ⟨_, _, _, hS.sim (c38 _ _ hb), ?_⟩
    cbv
end GoX
/- Contracts: texts as numbers. -/
set_option autoImplicit false
set_option maxRecDepth 100000
namespace GoX
open Go GoX.M

/-- the number of up to 15 that digits tell, from a beginning on; and an error's number. -/
def pu : Int → Bs → Int × Int
  | n, [] => (n, 0)
  | n, c :: s => if 48 ≤ c ∧ c ≤ 57 then (if 15 < n * 10 + (c - 48) then (15, 1) else pu (n * 10 + (c - 48)) s) else (0, 2)
def puAll (s : Bs) : Int × Int := if s = [] then (0, 2) else pu 0 s
def puErr (e : Int) : V := if e = 0 then .ni else .ifc 67 (.i .i64 e)

theorem c36 (c : Int) : Sim S.P 36 [.i .u8 c] [] [] (.val (.i .u8 (bitI .or .u8 c 32))) [] := by
  refine run36 0 (fun _ => false) 50 (by simp) (fun S' hS => ?_) (fun _ _ _ => rfl)
  unfold xc36
  cbv

theorem c31 (s : Bs) : Sim S.P 31 [.s s, .i .i64 10, .i .i64 4] [] [] (.val (.tup [.i .u64 (puAll s).1, puErr (puAll s).2])) [] := by
  refine Sim.facts (fun hA _ => ?_) (fun _ _ _ => rfl)
  have hF : Fact (.s s) := hA (.s s) (by simp)
  have hlen : s.length ≤ 9223372036854775807 := hF.s.1
  generalize hy : puAll s = y
  obtain ⟨y1, y2⟩ := y
  simp only
  generalize hz : puErr y2 = z
  unfold puAll at hy
  have e1 : (Classical.choice ops_ne).eqI 10 0 = false := by simp [Ops.all]
  have e2 : (Classical.choice ops_ne).leI 2 10 = true := by simp [Ops.all]
  have e3 : (Classical.choice ops_ne).leI 10 36 = true := by simp [Ops.all]
  have e4 : (Classical.choice ops_ne).eqI 4 0 = false := by simp [Ops.all]
  have e5 : (Classical.choice ops_ne).ltI 4 0 = false := by simp [Ops.all]
  have e6 : (Classical.choice ops_ne).ltI 64 4 = false := by simp [Ops.all]
  have e7 : (Classical.choice ops_ne).eqI 10 10 = true := by simp [Ops.all]
  refine run31 0 (fun _ => false) 90 (by simp) (fun S' hS => ?_) (fun _ _ _ => rfl)
  unfold xc31
  cbv
  split <;> rename_i hc
  · simp only [Ops.all, decide_eq_true_eq] at hc
    rw [if_pos hc] at hy
    injection hy with h1 h2
    subst h1; subst h2
    rw [← hz]; unfold puErr
    cbv
  · simp only [Ops.all, decide_eq_false_iff_not] at hc
    rw [if_neg hc] at hy
    cbv
    simp only [e2]
    cbv
    simp only [e3]
    cbv
    simp only [e4]
    cbv
    simp only [e5]
    cbv
    simp only [e6]
    cbv
    simp only [e7]
    cbv
    refine ⟨⟨by simp only [Ops.all, wraps]; omega⟩, ?_⟩
    refine VK_loop (α := Int × Int) (fun p => 0 ≤ p.1 ∧ p.1.toNat ≤ s.length ∧ 0 ≤ p.2 ∧ p.2 ≤ 15 ∧ pu p.2 (s.drop p.1.toNat) = (y1, y2))
      (fun p => ⟨[(1, .i .i64 10), (8, .b false), (10, .i .u64 1844674407370955162), (11, .i .u64 15), (12, .b false), (13, .i .u64 p.2), (99, .ow 200 (.int .u8) 0 (ln s)), (100, .i .i64 (ln s)), (101, .i .i64 p.1)], [(200, .row (.int .u8) s)]⟩) (fun p => (s.length - p.1.toNat)) ?_ ⟨(0, 0), ⟨by simp, by simp, by simp, by simp, by simpa using hy⟩, ?_⟩
    · rintro ⟨i, n⟩ ⟨h1, h2, h3, h4, h5⟩
      simp only at h1 h2 h3 h4 h5
      refine hS.run 60 ?_
      cbv
      split <;> rename_i hi
      · simp only [Ops.all, decide_eq_true_eq] at hi
        have hi : i < (s.length : Int) := hi
        have hq : i.toNat < s.length := by omega
        have hd : s.drop i.toNat = s.getD i.toNat 0 :: s.drop (i.toNat + 1) := by
          rw [List.drop_eq_getElem_cons hq, List.getD_eq_getElem?_getD, List.getElem?_eq_getElem hq]; rfl
        have hb : 0 ≤ s.getD i.toNat 0 ∧ s.getD i.toNat 0 ≤ 255 := by
          rw [List.getD_eq_getElem?_getD, List.getElem?_eq_getElem hq]
          exact hF.s.2 _ (List.getElem_mem hq)
        rw [hd] at h5
        simp only [pu] at h5
        obtain ⟨c, hcd⟩ : ∃ c, c = s.getD i.toNat 0 := ⟨_, rfl⟩
        rw [← hcd] at h5 hb
        have hgt : (Classical.choice ops_ne).gt s ((Classical.choice ops_ne).adI 0 i) 0 = c := by simp [Ops.all, hcd]
        clear hcd hd
        cbv
        refine ⟨⟨by simp only [Ops.all]; exact ⟨h1, hi⟩⟩, ⟨by simp only [Ops.all, defs]; omega⟩, ?_⟩
        simp only [hgt]
        by_cases hdg : 48 ≤ c ∧ c ≤ 57
        · have d1 : (Classical.choice ops_ne).eqI c 95 = false := by simp [Ops.all]; omega
          have d2 : (Classical.choice ops_ne).leI 48 c = true := by simp [Ops.all]; omega
          have d3 : (Classical.choice ops_ne).leI c 57 = true := by simp [Ops.all]; omega
          simp only [d1]
          cbv
          simp only [d2]
          cbv
          simp only [d3]
          cbv
          have w10 : IntKind.u8.wrap 10 = 10 := rfl
          have wd : IntKind.u8.wrap (c - 48) = c - 48 := by rw [wraps.1]; omega
          have d4 : (Classical.choice ops_ne).leI ((Classical.choice ops_ne).wr .u8 10) ((Classical.choice ops_ne).wr .u8 ((Classical.choice ops_ne).sbI c 48)) = false := by simp only [Ops.all, w10, wd, decide_eq_false_iff_not]; omega
          simp only [d4]
          cbv
          have d5 : (Classical.choice ops_ne).leI 1844674407370955162 n = false := by simp only [Ops.all, decide_eq_false_iff_not]; omega
          simp only [d5]
          cbv
          have w64 : IntKind.u64.wrap 10 = 10 := rfl
          have wm : IntKind.u64.wrap (n * 10) = n * 10 := by rw [wraps.2.2.2.1]; omega
          have wc : IntKind.u64.wrap (c - 48) = c - 48 := by rw [wraps.2.2.2.1]; omega
          have ws : IntKind.u64.wrap (n * 10 + (c - 48)) = n * 10 + (c - 48) := by rw [wraps.2.2.2.1]; omega
          have d6 : (Classical.choice ops_ne).wr .u64 ((Classical.choice ops_ne).adI ((Classical.choice ops_ne).wr .u64 ((Classical.choice ops_ne).mlI n ((Classical.choice ops_ne).wr .u64 10))) ((Classical.choice ops_ne).wr .u64 ((Classical.choice ops_ne).wr .u8 ((Classical.choice ops_ne).sbI c 48)))) = n * 10 + (c - 48) := by
            simp only [Ops.all, w64, wm, wd, wc, ws]
          have d7 : (Classical.choice ops_ne).wr .u64 ((Classical.choice ops_ne).mlI n ((Classical.choice ops_ne).wr .u64 10)) = n * 10 := by
            simp only [Ops.all, w64, wm]
          rw [if_pos hdg] at h5
          obtain ⟨q, hq1⟩ : ∃ q, q = n * 10 + (c - 48) := ⟨_, rfl⟩
          obtain ⟨p, hp1⟩ : ∃ p, p = n * 10 := ⟨_, rfl⟩
          rw [← hq1] at h5 d6
          rw [← hp1] at d7
          simp only [d6]
          simp only [d7]
          have d8 : (Classical.choice ops_ne).ltI q p = false := by simp only [Ops.all, decide_eq_false_iff_not]; omega
          simp only [d8]
          cbv
          split <;> rename_i hbg
          · simp only [Ops.all, decide_eq_true_eq] at hbg
            rw [if_pos hbg] at h5
            injection h5 with h6 h7
            subst h6; subst h7
            unfold puErr at hz
            simp only [show ¬ ((1 : Int) = 0) from by decide, if_false] at hz
            subst hz
            cbv
          · simp only [Ops.all, decide_eq_false_iff_not] at hbg
            rw [if_neg hbg] at h5
            cbv
            refine ⟨(i + 1, q), ⟨by simp; omega, by simp; omega, by simp; omega, by simp; omega, ?_⟩, by simp; omega, ?_⟩
            · simp only [show (i + 1).toNat = i.toNat + 1 from by omega]
              exact h5
            · generalize hj : i + 1 = j
              refine Wk.rn [(200, 200)] (by cbv) ?_ ?_
              · cbv
                simp only [Ops.all, wraps, true_and, and_true, V.i.injEq]
                omega
              · cbv; try trivial
        · rw [if_neg hdg] at h5
          injection h5 with h6 h7
          subst h6; subst h7
          unfold puErr at hz
          simp only [show ¬ ((2 : Int) = 0) from by decide, if_false] at hz
          subst hz
          have tail : True := trivial
          rcases Bool.eq_false_or_eq_true ((Classical.choice ops_ne).eqI c 95) with e | e <;> simp only [e] <;> cbv
          all_goals (rcases Bool.eq_false_or_eq_true ((Classical.choice ops_ne).leI 48 c) with f | f <;> simp only [f] <;> cbv)
          all_goals (try (
            have f' : (Classical.choice ops_ne).leI c 57 = false := by
              simp only [Ops.all, decide_eq_true_eq, decide_eq_false_iff_not] at f ⊢; omega
            simp only [f']
            cbv))
          all_goals (refine ⟨_, _, _, hS.sim (c36 _), ?_⟩)
          all_goals (
            generalize hlw : bitI .or .u8 c 32 = lw
            cbv
            rcases Bool.eq_false_or_eq_true ((Classical.choice ops_ne).leI 97 lw) with g | g <;> simp only [g] <;> cbv)
          all_goals (refine ⟨_, _, _, hS.sim (c36 _), ?_⟩)
          all_goals (
            rw [hlw]
            cbv
            rcases Bool.eq_false_or_eq_true ((Classical.choice ops_ne).leI lw 122) with h | h <;> simp only [h] <;> cbv)
          all_goals (refine ⟨_, _, _, hS.sim (c36 _), ?_⟩)
          all_goals (
            rw [hlw]
            cbv
            have big : (Classical.choice ops_ne).leI ((Classical.choice ops_ne).wr .u8 10) ((Classical.choice ops_ne).wr .u8 ((Classical.choice ops_ne).adI ((Classical.choice ops_ne).wr .u8 ((Classical.choice ops_ne).sbI lw 97)) 10)) = true := by
              simp only [Ops.all, wraps, decide_eq_true_eq] at g h ⊢; omega
            simp only [big]
            cbv)
      · cbv
        refine hS.run 60 ?_
        cbv
        simp only [Ops.all, decide_eq_false_iff_not] at hi
        have hi : ¬ i < (s.length : Int) := hi
        rw [List.drop_eq_nil_of_le (by omega)] at h5
        simp only [pu] at h5
        injection h5 with h6 h7
        subst h6; subst h7
        rw [← hz]; unfold puErr
        cbv
    · refine Wk.rn [(6400, 200)] (by cbv) ?_ ?_
      · cbv
        simp [Ops.all, shB, wraps, IntKind.bits]
      · cbv; try trivial
end GoX
/- Contracts: changes of texts. -/
set_option autoImplicit false
set_option maxRecDepth 100000
namespace GoX
open Go GoX.M

theorem pu_err (n : Int) (s : Bs) : (pu n s).2 = 0 ∨ (pu n s).2 = 1 ∨ (pu n s).2 = 2 := by
  induction s generalizing n with
  | nil => left; rfl
  | cons c s ih =>
    simp only [pu]
    split
    · split
      · right; left; rfl
      · exact ih _
    · right; right; rfl
theorem puAll_err (s : Bs) : (puAll s).2 = 0 ∨ (puAll s).2 = 1 ∨ (puAll s).2 = 2 := by
  unfold puAll; split
  · right; right; rfl
  · exact pu_err 0 s

/-- what a text that is no number comes to: an error. -/
theorem c230 (s : Bs) (n : Int) (hs : puAll s = (n, 0)) : Sim S.P 23 [.s s, .i .i64 10, .i .i64 4] [] [] (.val (.tup [.i .u64 n, .ni])) [] := by
  refine run23 0 (fun _ => false) 50 (by simp) (fun S' hS => ?_) (fun _ _ _ => rfl)
  unfold xc23
  cbv
  refine ⟨_, _, _, hS.sim (c31 _), ?_⟩
  rw [hs, show puErr 0 = .ni from rfl]
  cbv

theorem c231 (s : Bs) (n e : Int) (hb : s.length ≤ 4294967296) (hs : puAll s = (n, e)) (he : e = 1 ∨ e = 2) : Sim S.P 23 [.s s, .i .i64 10, .i .i64 4] [] [] (.val (.tup [.i .u64 n, .ifc 71 (.pt 32 0)])) (numErr [80, 97, 114, 115, 101, 85, 105, 110, 116] s) := by
  refine run23 0 (fun _ => false) 50 (by simp) (fun S' hS => ?_) (fun id h _ => by unfold numErr; simp only [lk]; rw [if_neg (by omega)])
  unfold xc23 numErr
  cbv
  refine ⟨_, _, _, hS.sim (c31 _), ?_⟩
  rw [hs, show puErr e = .ifc 67 (.i .i64 e) from by unfold puErr; rw [if_neg (by omega)]]
  cbv
  refine ⟨_, _, _, hS.sim (c32 _ _ _ _ _ hb he), ?_⟩
  unfold numErr
  cbv
end GoX
/- Contracts: changes of texts. -/
set_option autoImplicit false
set_option maxRecDepth 100000
namespace GoX
open Go GoX.M

def restOf (s : Bs) : Bs := if hasPre s [43] then s.drop 1 else if hasPre s [45] then s.drop 1 else s
/-- the change of a text. -/
def rollParse (s : Bs) : Change × Int :=
  if (puAll (restOf s)).2 = 0 ∧ chText ⟨hasPre s [43], (puAll (restOf s)).1⟩ = s then (⟨hasPre s [43], (puAll (restOf s)).1⟩, 0) else (⟨false, 0⟩, 4)

theorem pu_le (n : Int) (s : Bs) (h0 : 0 ≤ n) (h : n ≤ 15) : 0 ≤ (pu n s).1 ∧ (pu n s).1 ≤ 15 := by
  induction s generalizing n with
  | nil => exact ⟨h0, h⟩
  | cons c s ih =>
    simp only [pu]
    split
    · split
      · exact ⟨by simp, by simp⟩
      · exact ih _ (by omega) (by omega)
    · exact ⟨by simp, by simp⟩
theorem puAll_le (s : Bs) : 0 ≤ (puAll s).1 ∧ (puAll s).1 ≤ 15 := by
  unfold puAll; split
  · exact ⟨by simp, by simp⟩
  · exact pu_le 0 s (by omega) (by omega)

theorem c13 (s : Bs) (hb : s.length ≤ 4294967296) : Sim S.P 13 [.s s] [] [] (.val (.tup [vChange (rollParse s).1, .i .i64 (rollParse s).2])) [] := by
  generalize hy : rollParse s = y
  obtain ⟨⟨y1, y2⟩, y3⟩ := y
  unfold rollParse at hy
  have hrl : (restOf s).length ≤ 4294967296 := by
    unfold restOf
    split
    · simp; omega
    · split
      · simp; omega
      · exact hb
  generalize hrest : restOf s = rest at *
  unfold restOf at hrest
  generalize hadd : hasPre s [43] = add at *
  have hle := puAll_le rest
  have her := puAll_err rest
  generalize hpu : puAll rest = pr at *
  obtain ⟨n, e⟩ := pr
  simp only at hle her hy
  have hw : IntKind.u8.wrap n = n := by rw [wraps.1]; omega
  refine run13 0 (fun _ => false) 60 (by simp) (fun S' hS => ?_) (fun _ _ _ => rfl)
  unfold xc13
  cbv
  refine ⟨_, _, _, hS.sim (c21 _ _), ?_⟩
  rw [hadd]
  generalize hd : s.drop ([43] : Bs).length = d
  have hd' : s.drop 1 = d := hd
  rw [hd'] at hrest
  have main : ∀ (add' : Bool) (t : St), True := fun _ _ => trivial
  cases add
  · cbv
    refine ⟨_, _, _, hS.sim (c22 _ _), ?_⟩
    rw [show s.drop ([45] : Bs).length = d from hd', show (if hasPre s [45] = true then d else s) = rest from by simpa using hrest]
    cbv
    by_cases he : e = 0
    · subst he
      refine ⟨_, _, _, hS.sim (c230 _ n hpu), ?_⟩
      cbv
      have e1 : (Classical.choice ops_ne).wr .u8 n = n := by simp only [Ops.all, hw]
      simp only [e1]
      refine ⟨_, _, _, hS.sim (c14 ⟨false, n⟩ (by simp only; omega)), ?_⟩
      generalize chText ⟨false, n⟩ = t at *
      cbv
      split <;> rename_i h0
      · have h0' : ¬ t = s := by intro h; subst h; simp [Ops.all] at h0
        rw [if_neg (fun h => h0' h.2)] at hy
        simp only [Prod.mk.injEq, Change.mk.injEq] at hy
        obtain ⟨⟨rfl, rfl⟩, rfl⟩ := hy
        cbv
      · have h0' : t = s := by
          by_cases h : t = s
          · exact h
          · exfalso; simp [Ops.all, h] at h0
        rw [if_pos ⟨rfl, h0'⟩] at hy
        simp only [Prod.mk.injEq, Change.mk.injEq] at hy
        obtain ⟨⟨rfl, rfl⟩, rfl⟩ := hy
        cbv
    · refine ⟨_, _, _, hS.sim (c231 _ n e hrl hpu (by omega)), ?_⟩
      unfold numErr
      cbv
      rw [if_neg (fun h => he h.1)] at hy
      simp only [Prod.mk.injEq, Change.mk.injEq] at hy
      obtain ⟨⟨rfl, rfl⟩, rfl⟩ := hy
      trivial
  · simp only [if_true] at hrest
    subst hrest
    cbv
    by_cases he : e = 0
    · subst he
      refine ⟨_, _, _, hS.sim (c230 _ n hpu), ?_⟩
      cbv
      have e1 : (Classical.choice ops_ne).wr .u8 n = n := by simp only [Ops.all, hw]
      simp only [e1]
      refine ⟨_, _, _, hS.sim (c14 ⟨true, n⟩ (by simp only; omega)), ?_⟩
      generalize chText ⟨true, n⟩ = t at *
      cbv
      split <;> rename_i h0
      · have h0' : ¬ t = s := by intro h; subst h; simp [Ops.all] at h0
        rw [if_neg (fun h => h0' h.2)] at hy
        simp only [Prod.mk.injEq, Change.mk.injEq] at hy
        obtain ⟨⟨rfl, rfl⟩, rfl⟩ := hy
        cbv
      · have h0' : t = s := by
          by_cases h : t = s
          · exact h
          · exfalso; simp [Ops.all, h] at h0
        rw [if_pos ⟨rfl, h0'⟩] at hy
        simp only [Prod.mk.injEq, Change.mk.injEq] at hy
        obtain ⟨⟨rfl, rfl⟩, rfl⟩ := hy
        cbv
    · refine ⟨_, _, _, hS.sim (c231 _ n e hrl hpu (by omega)), ?_⟩
      unfold numErr
      cbv
      rw [if_neg (fun h => he h.1)] at hy
      simp only [Prod.mk.injEq, Change.mk.injEq] at hy
      obtain ⟨⟨rfl, rfl⟩, rfl⟩ := hy
      trivial
end GoX
/- The laws' own beginnings. -/
set_option autoImplicit false
set_option maxRecDepth 100000
namespace GoX
open Go GoX.M

theorem c6 : Sim S.P 6 [] [] [] (.val (.b true)) [] := by
  refine run6 0 (fun _ => false) 60 (by simp) (fun S' hS => ?_) (fun _ _ _ => rfl)
  unfold xc6
  cbv
  refine ⟨_, _, _, hS.sim (c10 ⟨0, 3⟩ ⟨true, 3⟩), ?_⟩
  rw [show rollApply ⟨0, 3⟩ ⟨true, 3⟩ = (⟨1, 11⟩, 0) from by decide +kernel]
  cbv
  refine ⟨_, _, _, hS.sim (c13 _ (by simp)), ?_⟩
  rw [show rollParse [45, 49, 53] = (⟨false, 15⟩, 0) from by decide +kernel]
  cbv
  refine ⟨_, _, _, hS.sim (c13 _ (by simp)), ?_⟩
  rw [show rollParse [43, 48, 51] = (⟨false, 0⟩, 4) from by decide +kernel]
  cbv
  iterate 5 (simp only [Ops.all]; cbv)
  refine ⟨_, _, _, hS.sim (c14 ⟨false, 15⟩ (by simp)), ?_⟩
  rw [show chText ⟨false, 15⟩ = [45, 49, 53] from by decide +kernel]
  cbv
  simp only [Ops.all]
  cbv
  refine ⟨_, _, _, hS.sim (c12 ⟨1, 11⟩), ?_⟩
  rw [show rollRight ⟨1, 11⟩ = true from by decide +kernel]
  cbv
end GoX
/- The listed variables of the seat r1; a law of the seat, from its contract to its row and its card. -/
set_option autoImplicit false
set_option maxRecDepth 100000
namespace GoX
open Go Go.Proofs

def laidR : List (String × DataW Unit) := [("math/bits.deBruijn32tab", YtfeohgeipcjbnaaDoor.Rows.laid_math_bits_deBruijn32tab), ("math/bits.deBruijn64tab", YtfeohgeipcjbnaaDoor.Rows.laid_math_bits_deBruijn64tab), ("internal/strconv.uint64pow10", YtfeohgeipcjbnaaDoor.Rows.laid_internal_strconv_uint64pow10), ("strconv.ErrRange", YtfeohgeipcjbnaaDoor.Rows.laid_strconv_ErrRange), ("strconv.ErrSyntax", YtfeohgeipcjbnaaDoor.Rows.laid_strconv_ErrSyntax)]

theorem own1 : ownKnob Tryd.prog.godebug = none := by kernel_rfl

theorem glob_of {w : World} (h : laidMetH Tryd.prog laidR w) : Glob (allI w) w := by
  have hp : (laidR.any fun x => x.2.handleName?.isSome) = false := by kernel_rfl
  intro g cs hg
  unfold globs at hg
  simp only [lk] at hg
  split at hg
  · rename_i e; subst e; injection hg with hg; subst hg
    exact glob_ifc h hp (i := 4) (t := 60) rfl (by kernel_rfl) (by kernel_rfl) Tryd.underlying60 _
  split at hg
  · rename_i e; subst e; injection hg with hg; subst hg
    exact glob_ifc h hp (i := 3) (t := 60) rfl (by kernel_rfl) (by kernel_rfl) Tryd.underlying60 _
  split at hg
  · rename_i e; subst e; injection hg with hg; subst hg
    exact glob_ints h hp (i := 0) (t := 96) (e := 5) rfl (by kernel_rfl) (by kernel_rfl) Tryd.underlying96 Tryd.underlying5 (by kernel_rfl) (by kernel_rfl) (by decide)
  · cases hg

theorem door_met (os : Os) (args : Array Value) : laidMetH Tryd.prog laidR ((World.doorLaid Tryd.prog 100000 os).forCall (fun _ _ => 0) ⟨#[], args, []⟩).memory :=
  laidMetH_of_parts3 (fuel := 64) (laidMet_of_run' 64 (by kernel_rfl) (by kernel_rfl)) (by kernel_rfl) (by kernel_rfl)
end GoX
/- What the Roll laws are given. -/
set_option autoImplicit false
set_option maxRecDepth 100000
namespace GoX
open Go Go.Proofs

def ety1 : TypeId → Option Ty := fun t => lk [(41, Ty.change)] t
theorem S_P : S.P = Tryd.prog := by rw [S_eq]; rfl
theorem laid1 : laidOutB Tryd.prog = true := by kernel_rfl

theorem fit_roll {v : V} (h : FitA Tryd.prog ety1 25 v) : ∃ r : Roll, v = vRoll r := by
  obtain ⟨cs, rfl, hf⟩ := h.str Tryd.underlying25 (l := [.i .i64, .i .u16]) (by kernel_rfl)
  cases hf with | i _ a hf => cases hf with | i _ b hf => cases hf; exact ⟨⟨a, b⟩, rfl⟩
theorem fit_changes {v : V} (h : FitA Tryd.prog ety1 26 v) : ∃ l : List Change, v = .sl .change l :=
  (h.cell (by rw [Tryd.underlying26]; intro fs h; cases h) (k := .sl .change) (by kernel_rfl)).sl1

theorem fit_cut {v : V} (h : FitA Tryd.prog ety1 5 v) : ∃ x : Int, v = .i .u8 x :=
  (h.cell (by rw [Tryd.underlying5]; intro fs h; cases h) (k := .i .u8) (by kernel_rfl)).i1
end GoX
/- The statement on paths. -/
set_option autoImplicit false
set_option maxRecDepth 100000
namespace GoX
open Go GoX.M

theorem steps_len (r : Roll) (l : List Change) : (steps r l).length ≤ l.length + 1 := by
  induction l generalizing r with
  | nil => simp [steps]
  | cons c l ih =>
    simp only [steps, List.length_cons]
    split
    · have := ih (rollApply r c).1; omega
    · simp
theorem rollPath_len (r : Roll) (l : List Change) : (rollPath r l).length ≤ l.length + 1 := by
  unfold rollPath; split
  · exact steps_len r l
  · simp

theorem c3 (r : Roll) (l : List Change) : Sim S.P 3 [vRoll r, .sl .change l] [] [] (.val (.b true)) [] := by
  refine Sim.facts (fun hA _ => ?_) (fun _ _ _ => rfl)
  obtain ⟨v, m⟩ := r
  refine run3 0 (fun _ => false) 60 (by simp) (fun S' hS => ?_) (fun _ _ _ => rfl)
  unfold xc3
  cbv
  refine ⟨_, _, _, hS.sim c6, ?_⟩
  cbv
  split <;> rename_i hc
  · cbv
  · simp only [Ops.all, decide_eq_false_iff_not] at hc
    have hl : l.length ≤ 100 := by omega
    cbv
    refine ⟨_, _, _, hS.sim (c8 _ (by omega)), ?_⟩
    cbv
    refine ⟨_, _, _, hS.sim (c7 ⟨v, m⟩ _ (by omega)), ?_⟩
    have hpl := rollPath_len ⟨v, m⟩ l
    generalize hp : rollPath ⟨v, m⟩ l = p at *
    cbv
    refine ⟨_, _, _, hS.sim (c9 ⟨v, m⟩ _ (by omega)), ?_⟩
    rw [hp]
    cbv
    split <;> rename_i h0
    · exfalso; simp [Ops.all] at h0
    · cbv
      refine VK_loop (α := Int) (fun i => 0 ≤ i) (fun i => ⟨[(5, .sl .roll p), (6, .sl .roll p), (26, .i .i64 (ln p)), (27, .i .i64 i)], []⟩) (fun i => p.length - i.toNat) ?_ ⟨0, by simp, ?_⟩
      · intro i h1
        refine hS.run 60 ?_
        cbv
        split <;> rename_i hi
        · simp only [Ops.all, decide_eq_true_eq] at hi
          have hi : i < (p.length : Int) := hi
          have hq : i.toNat < p.length := by omega
          cbv
          have same : ∀ x : Int, (Classical.choice ops_ne).eqI x x = true := fun x => by simp [Ops.all]
          refine ⟨⟨by simp only [defs]; exact ⟨h1, hi⟩⟩, ⟨by simp only [defs]; exact ⟨h1, hi⟩⟩, ?_⟩
          simp only [same]
          cbv
          refine ⟨i + 1, by omega, by omega, ?_⟩
          generalize hj : i + 1 = j
          refine Wk.rn [] rfl ?_ (by cbv)
          cbv
          simp only [Ops.all, wraps, true_and, and_true, V.i.injEq]
          omega
        · cbv
          refine hS.run 60 ?_
          cbv
      · exact Wk.rn [] rfl (by cbv; simp [Ops.all]) (by cbv)
end GoX
/- Plain facts on views: a change and its opposite; views of a path follow one another. -/
set_option autoImplicit false
set_option maxRecDepth 100000
namespace GoX.M
open Go GoX

theorem wout_wth {s id : Int} (hs : isSet s) (h0 : 0 ≤ id) (h1 : id < 16) (h : has s id = false) : wout (wth s id) id = s := by
  have h2 : has (wth s id) id = true := by rw [has_wth hs h0 h1 h0]; simp
  have e1 : wth s id = s + bit id := by unfold wth; rw [h]; rfl
  unfold wout
  rw [h2, e1]
  simp
theorem wth_wout {s id : Int} (hs : isSet s) (h0 : 0 ≤ id) (h1 : id < 16) (h : has s id = true) : wth (wout s id) id = s := by
  have h2 : has (wout s id) id = false := by rw [has_wout hs h0 h1 h0]; simp
  have e1 : wout s id = s - bit id := by unfold wout; rw [h]; rfl
  unfold wth
  rw [h2, e1]
  simp

/-- what a change that is made leads to. -/
theorem rollApply_ok {r a : Roll} {c : Change} (h : rollApply r c = (a, 0)) : rollRight r = true ∧ c.id < 16 ∧ has r.members c.id = !c.add ∧ r.view < 1000 ∧ a.view = r.view + 1 ∧ a.members = (if c.add then wth r.members c.id else wout r.members c.id) ∧ a.members ≠ 0 := by
  unfold rollApply at h
  split at h
  · injection h with _ h; cases h
  rename_i h1
  split at h
  · injection h with _ h; cases h
  rename_i h2
  split at h
  · injection h with _ h; cases h
  rename_i h3
  split at h
  · injection h with _ h; cases h
  rename_i h4
  simp only at h
  simp only [Bool.or_eq_true, Bool.not_eq_true', decide_eq_true_eq, not_or, Bool.not_eq_false] at h1
  obtain ⟨h1, h5⟩ := h1
  have hv : r.view ≤ 1000 := by
    unfold rollRight at h1
    simp only [Bool.and_eq_true, decide_eq_true_eq] at h1
    exact h1.1.2
  by_cases hm : (if c.add = true then wth r.members c.id else wout r.members c.id) = 0
  · rw [if_pos hm] at h; injection h with _ h; cases h
  · rw [if_neg hm] at h
    injection h with h _
    subst h
    refine ⟨h1, by omega, ?_, by omega, rfl, rfl, hm⟩
    cases hc : c.add <;> cases hh : has r.members c.id <;> simp_all

theorem apply_back {r a : Roll} {c : Change} (hs : isSet r.members) (h0 : 0 ≤ c.id) (h : rollApply r c = (a, 0)) :
    (∃ z, rollApply a ⟨!c.add, c.id⟩ = (z, 11) ∧ r.view = 999) ∨ rollApply a ⟨!c.add, c.id⟩ = (⟨r.view + 2, r.members⟩, 0) := by
  obtain ⟨h1, h2, h3, h4, h5, h6, h7⟩ := rollApply_ok h
  unfold rollRight at h1
  simp only [Bool.and_eq_true, decide_eq_true_eq, ne_eq] at h1
  have hr : rollRight a = true := by
    unfold rollRight
    simp only [Bool.and_eq_true, decide_eq_true_eq]
    exact ⟨⟨by omega, by omega⟩, h7⟩
  have hm : has a.members c.id = c.add := by
    rw [h6]
    cases hc : c.add
    · simp only [Bool.false_eq_true, if_false]
      rw [has_wout hs h0 h2 h0]; simp
    · simp only [if_true]
      rw [has_wth hs h0 h2 h0]; simp
  have hb : (if (!c.add) = true then wth a.members c.id else wout a.members c.id) = r.members := by
    rw [h6]
    cases hc : c.add
    · rw [hc] at h3
      simp only [Bool.not_false, if_true, Bool.false_eq_true, if_false]
      exact wth_wout hs h0 h2 h3
    · rw [hc] at h3
      simp only [Bool.not_true, if_true, Bool.false_eq_true, if_false]
      exact wout_wth hs h0 h2 h3
  unfold rollApply
  rw [hr]
  simp only [Bool.not_true, Bool.false_or, decide_eq_true_eq]
  rw [if_neg (by omega), hm]
  rw [if_neg (by cases c.add <;> simp), if_neg (by cases c.add <;> simp)]
  by_cases hv : a.view = 1000
  · left
    rw [if_pos hv]
    exact ⟨_, rfl, by omega⟩
  · right
    rw [if_neg hv, hb, if_neg h1.2, h5]
    rw [show r.view + 1 + 1 = r.view + 2 from by omega]

theorem has_xor {a b i : Int} (ha : isSet a) (hb : isSet b) : has (bitsI .xor .u16 a b) i = (has a i != has b i) := by
  rw [xor_nat ha hb]
  unfold has
  rw [Int.toNat_natCast, Nat.testBit_xor]
theorem size_bit {id : Int} (h0 : 0 ≤ id) (h1 : id < 16) : size (bit id) = 1 := by
  have key : ∀ n : Fin 16, size (bit (n.val : Int)) = 1 := by decide +kernel
  have := key ⟨id.toNat, by omega⟩
  rwa [show ((id.toNat : Nat) : Int) = id from by omega] at this
theorem has_bit {id i : Int} (h0 : 0 ≤ id) (h1 : id < 16) (hi : 0 ≤ i) : has (bit id) i = decide (i = id) := by
  have : bit id = wth 0 id := by unfold wth; rw [has_zero]; simp
  rw [this, has_wth zero_set h0 h1 hi, has_zero]; simp

def stepOk (a b : Roll) : Prop := b.view = a.view + 1 ∧ size (bitsI .xor .u16 b.members a.members) = 1 ∧ b.members ≠ 0 ∧ isSet b.members ∧ b.view ≤ 1000 ∧ 0 ≤ a.view

theorem apply_step {r a : Roll} {c : Change} (hs : isSet r.members) (h0 : 0 ≤ c.id) (h : rollApply r c = (a, 0)) : stepOk r a := by
  obtain ⟨h1, h2, h3, h4, h5, h6, h7⟩ := rollApply_ok h
  have ha : isSet a.members := by
    rw [h6]; split
    · exact wth_set hs h0
    · exact wout_set hs h0
  have hv : 0 ≤ r.view := by
    unfold rollRight at h1
    simp only [Bool.and_eq_true, decide_eq_true_eq] at h1
    exact h1.1.1
  refine ⟨h5, ?_, h7, ha, by omega, hv⟩
  have : bitsI .xor .u16 a.members r.members = bit c.id := by
    have hx : isSet (bitsI .xor .u16 a.members r.members) := by
      rw [xor_nat ha hs]
      have h8 := ha.2; have h9 := hs.2
      have := Nat.xor_lt_two_pow (n := 16) (x := a.members.toNat) (y := r.members.toNat) (by omega) (by omega)
      exact ⟨by omega, by omega⟩
    refine set_ext hx (bit_set h0) fun i hi hi' => ?_
    rw [has_xor ha hs, has_bit h0 h2 hi, h6]
    split
    · rename_i hc
      rw [has_wth hs h0 h2 hi]
      rw [hc] at h3
      by_cases e : i = c.id
      · subst e; rw [h3]; simp
      · simp [e]
    · rename_i hc
      rw [has_wout hs h0 h2 hi]
      simp only [Bool.not_eq_true] at hc
      rw [hc] at h3
      by_cases e : i = c.id
      · subst e; rw [h3]; simp
      · simp [e]
  rw [this]
  exact size_bit h0 h2

theorem steps_chain (r : Roll) (l : List Change) (hs : isSet r.members) (hl : ∀ c ∈ l, 0 ≤ c.id) : ∀ (i : Nat) (h : i + 1 < (steps r l).length), stepOk ((steps r l)[i]'(by omega)) (steps r l)[i + 1] := by
  induction l generalizing r with
  | nil => intro i h; simp [steps] at h
  | cons c l ih =>
    intro i h
    simp only [steps] at h ⊢
    by_cases he : (rollApply r c).2 = 0
    · have hst := apply_step hs (hl c (List.mem_cons_self ..)) (show rollApply r c = ((rollApply r c).1, 0) from by rw [← he])
      simp only [if_pos he] at h ⊢
      cases i with
      | zero =>
        cases l with
        | nil => simpa [steps] using hst
        | cons d l => simpa [steps] using hst
      | succ i =>
        have := ih (rollApply r c).1 hst.2.2.2.1 (fun d hd => hl d (List.mem_cons_of_mem _ hd)) i (by simpa using h)
        simpa using this
    · simp [if_neg he] at h
theorem steps_pos (r : Roll) (l : List Change) : 0 < (steps r l).length := by cases l <;> simp [steps]
end GoX.M
/- The statement on there and back. -/
set_option autoImplicit false
set_option maxRecDepth 100000
namespace GoX
open Go GoX.M

set_option maxHeartbeats 2000000 in
theorem c4 (r : Roll) (l : List Change) : Sim S.P 4 [vRoll r, .sl .change l] [] [] (.val (.b true)) [] := by
  refine Sim.facts (fun hA _ => ?_) (fun _ _ _ => rfl)
  have hF : FactL [.i .i64 r.view, .i .u16 r.members] := hA (vRoll r) (by simp)
  have hv := rng_i64 hF.head
  have hm : isSet r.members := rng_u16 hF.tail.head
  have hS : Fact (.sl .change l) := hA (.sl .change l) (by simp)
  have hid : ∀ c ∈ l, 0 ≤ c.id ∧ c.id ≤ 255 := fun c hc => rng_u8 (hS.sl.2 c hc).tail.head
  obtain ⟨v, m⟩ := r
  simp only at hv hm
  refine run4 0 (fun _ => false) 90 (by simp) (fun S' hS => ?_) (fun _ _ _ => rfl)
  unfold xc4
  cbv
  refine ⟨_, _, _, hS.sim c6, ?_⟩
  cbv
  by_cases hl : l.length ≤ 100
  · have e1 : (Classical.choice ops_ne).ltI 100 ((Classical.choice ops_ne).ln l) = false := by simp only [Ops.all, decide_eq_false_iff_not]; omega
    simp only [e1]
    cbv
    by_cases h0 : l.length = 0
    · have e2 : (Classical.choice ops_ne).eqI ((Classical.choice ops_ne).ln l) 0 = true := by simp only [Ops.all, decide_eq_true_eq]; omega
      simp only [e2]
      cbv
    · have e2 : (Classical.choice ops_ne).eqI ((Classical.choice ops_ne).ln l) 0 = false := by simp only [Ops.all, decide_eq_false_iff_not]; omega
      simp only [e2]
      cbv
      have hgt : ∃ c0, (Classical.choice ops_ne).gt l 0 ⟨false, 0⟩ = c0 ∧ c0 ∈ l := by
        refine ⟨_, rfl, ?_⟩
        simp only [Ops.all]
        rw [show (0 : Int).toNat = 0 from rfl, List.getD_eq_getElem?_getD, List.getElem?_eq_getElem (by omega)]
        exact List.getElem_mem _
      obtain ⟨⟨c1, c2⟩, hgt, hmem⟩ := hgt
      simp only [hgt]
      refine ⟨⟨by simp only [defs]; omega⟩, ?_⟩
      refine ⟨_, _, _, hS.sim (c10 ⟨v, m⟩ ⟨c1, c2⟩), ?_⟩
      generalize hra : rollApply _ _ = ra
      obtain ⟨⟨a1, a2⟩, a3⟩ := ra
      cbv
      have hP : ∃ p, rollPath ⟨v, m⟩ l = p ∧ p.length ≤ l.length + 1 ∧ (∀ (i : Nat) (h : i + 1 < p.length), stepOk (p[i]'(by omega)) p[i + 1]) ∧ ((p.length = 0) = (rollRight ⟨v, m⟩ = false)) := by
        refine ⟨_, rfl, rollPath_len _ _, ?_, ?_⟩
        · intro i h
          unfold rollPath at h ⊢
          split at h
          · rename_i hr
            simp only [hr, if_true]
            exact steps_chain ⟨v, m⟩ l hm (fun c hc => (hid c hc).1) i h
          · simp at h
        · unfold rollPath
          cases hr : rollRight ⟨v, m⟩ with
          | true => have := steps_pos ⟨v, m⟩ l; simp only [if_true, reduceCtorEq, eq_iff_iff, iff_false]; omega
          | false => simp
      obtain ⟨p, hp, hpl, hps, hpr⟩ := hP
      generalize hrr : rollRight ⟨v, m⟩ = rr at *
      by_cases hz : a3 = 0
      case' pos =>
        subst hz
        have e3 : (Classical.choice ops_ne).eqI 0 0 = true := by simp [Ops.all]
        simp only [e3]
        cbv
        simp only [hgt]
        refine ⟨⟨by simp only [defs]; omega⟩, ⟨by simp only [defs]; omega⟩, ?_⟩
        refine ⟨_, _, _, hS.sim (c10 ⟨a1, a2⟩ ⟨!c1, c2⟩), ?_⟩
        have hback := apply_back hm (hid _ hmem).1 hra
        simp only at hback
        generalize hrb : rollApply ⟨a1, a2⟩ ⟨!c1, c2⟩ = rb at *
        obtain ⟨⟨b1, b2⟩, b3⟩ := rb
        cbv
        have t00 : (Classical.choice ops_ne).eqI 0 0 = true := by simp [Ops.all]
        rcases hback with ⟨z, hz1, hz2⟩ | hz1
        case' inl =>
          simp only [Prod.mk.injEq] at hz1
          obtain ⟨_, rfl⟩ := hz1
          have e4 : (Classical.choice ops_ne).eqI 11 0 = false := by simp [Ops.all]
          have e5 : (Classical.choice ops_ne).ltI v 999 = false := by simp [Ops.all]; omega
          repeat (first | (simp only [e4]; cbv) | (simp only [e5]; cbv))
        case' inr =>
          simp only [Prod.mk.injEq, Roll.mk.injEq] at hz1
          obtain ⟨⟨hz2, hz3⟩, rfl⟩ := hz1
          have hz3 := hz3.symm
          subst hz3
          subst hz2
          have e5 : (Classical.choice ops_ne).eqI m m = true := by simp [Ops.all]
          have hvv := (rollApply_ok hra).1
          unfold rollRight at hvv
          simp only [Bool.and_eq_true, decide_eq_true_eq] at hvv
          have e6 : (Classical.choice ops_ne).eqI (v + 2) ((Classical.choice ops_ne).wr .i64 ((Classical.choice ops_ne).adI v 2)) = true := by simp only [Ops.all, wraps, decide_eq_true_eq]; omega
          generalize v + 2 = v2 at *
          repeat (first | (simp only [e3]; cbv) | (simp only [e5]; cbv) | (simp only [e6]; cbv))
      case' neg =>
        have e3 : (Classical.choice ops_ne).eqI a3 0 = false := by simp [Ops.all, hz]
        simp only [e3]
        cbv
      all_goals (
        clear hA hF
        refine ⟨_, _, _, hS.sim (c8 _ (by omega)), ?_⟩
        cbv
        refine ⟨_, _, _, hS.sim (c7 ⟨_, _⟩ _ (by omega)), ?_⟩
        rw [hp]
        cbv
        refine VK_loop (α := Int) (fun i => 1 ≤ i ∧ i ≤ 1000) (fun i => ⟨[(1, .sl .change l), (2, .pt 192 0), (9, .sl .roll p), (10, .i .i64 i)], [(192, .cells [.i .i64 v, .i .u16 m])]⟩) (fun i => p.length - i.toNat) ?_ ⟨1, by omega, ?_⟩
        · rintro i ⟨h1, h1'⟩
          refine hS.run 90 ?_
          cbv
          by_cases hi : i < (p.length : Int)
          · have f1 : (Classical.choice ops_ne).ltI i ((Classical.choice ops_ne).ln p) = true := by simp only [Ops.all, decide_eq_true_eq]; exact hi
            have hq0 : i.toNat < p.length := by omega
            have hst := hps (i.toNat - 1) (by omega)
            simp only [f1]
            cbv
            obtain ⟨j, hj⟩ : ∃ j, j = i - 1 := ⟨_, rfl⟩
            have hw : (Classical.choice ops_ne).wr .i64 ((Classical.choice ops_ne).sbI i 1) = j := by simp only [Ops.all, wraps]; omega
            have hq : (Classical.choice ops_ne).gt p i ⟨0, 0⟩ = p[i.toNat - 1 + 1] := by
              simp only [Ops.all]
              rw [List.getD_eq_getElem?_getD, List.getElem?_eq_getElem (by omega)]
              simp only [Option.getD_some]
              congr 1; omega
            have hq' : (Classical.choice ops_ne).gt p j ⟨0, 0⟩ = p[i.toNat - 1] := by
              simp only [Ops.all]
              rw [List.getD_eq_getElem?_getD, List.getElem?_eq_getElem (by omega)]
              simp only [Option.getD_some]
              congr 1; omega
            generalize p[i.toNat - 1 + 1] = y at *
            generalize p[i.toNat - 1] = x at *
            obtain ⟨y1, y2⟩ := y
            obtain ⟨x1, x2⟩ := x
            unfold stepOk at hst
            simp only at hst
            obtain ⟨g1, g2, g3, g4, g5, g6⟩ := hst
            have f2 : (Classical.choice ops_ne).eqI y1 ((Classical.choice ops_ne).wr .i64 ((Classical.choice ops_ne).adI x1 1)) = true := by simp only [Ops.all, wraps, decide_eq_true_eq]; omega
            have f3 : size ((Classical.choice ops_ne).bitI .xor .u16 y2 x2) = 1 := by simp only [Ops.all]; exact g2
            have f4 : (Classical.choice ops_ne).eqI 1 1 = true := by simp [Ops.all]
            have f5 : (Classical.choice ops_ne).eqI y2 0 = false := by simp only [Ops.all, decide_eq_false_iff_not]; exact g3
            have f6 : 0 ≤ j ∧ j < p.length := by omega
            have f7 : 0 ≤ i ∧ i < p.length := by omega
            have f8 : i + 1 ≤ 1000 ∧ p.length - (i + 1).toNat < p.length - i.toNat := by omega
            simp only [hw]
            simp only [hq, hq']
            refine ⟨⟨by simp only [defs]; exact f7⟩, ⟨by simp only [defs]; exact f6⟩, ?_⟩
            repeat (simp only [f2]; cbv)
            (try simp only [hw])
            (try simp only [hq, hq'])
            refine ⟨⟨by simp only [defs]; exact f7⟩, ⟨by simp only [defs]; exact f6⟩, ?_⟩
            refine ⟨_, _, _, hS.sim (c11 _), ?_⟩
            rw [f3]
            cbv
            repeat (simp only [f4]; cbv)
            simp only [hq]
            refine ⟨⟨by simp only [defs]; exact f7⟩, ?_⟩
            repeat (simp only [f5]; cbv)
            refine ⟨i + 1, ⟨by omega, f8.1⟩, f8.2, ?_⟩
            generalize hj' : i + 1 = i'
            refine Wk.rn [(192, 192)] (by cbv) ?_ (by cbv; try simp [Ops.all])
            cbv
            simp only [Ops.all, wraps, true_and, and_true, V.i.injEq]
            omega
          · have f1 : (Classical.choice ops_ne).ltI i ((Classical.choice ops_ne).ln p) = false := by simp only [Ops.all, decide_eq_false_iff_not]; exact hi
            simp only [f1]
            cbv
            refine hS.run 90 ?_
            cbv
            refine ⟨_, _, _, hS.sim (c12 ⟨_, _⟩), ?_⟩
            rw [hrr]
            have g2 : (Classical.choice ops_ne).leI ((Classical.choice ops_ne).ln p) ((Classical.choice ops_ne).wr .i64 ((Classical.choice ops_ne).adI ((Classical.choice ops_ne).ln l) 1)) = true := by simp only [Ops.all, wraps, decide_eq_true_eq]; omega
            cases rr
            · have g1 : (Classical.choice ops_ne).eqI ((Classical.choice ops_ne).ln p) 0 = true := by simp only [Ops.all, decide_eq_true_eq]; simp at hpr; simp [hpr]
              cbv
              repeat (first | (simp only [g1]; cbv) | (simp only [g2]; cbv))
            · have g1 : (Classical.choice ops_ne).eqI ((Classical.choice ops_ne).ln p) 0 = false := by simp only [Ops.all, decide_eq_false_iff_not]; simp at hpr; simp [hpr]
              cbv
              repeat (first | (simp only [g1]; cbv) | (simp only [g2]; cbv))
        · refine Wk.rn [(192, 192)] (by cbv) (by cbv; try simp [Ops.all]) (by cbv; try simp [Ops.all]))
  · have e1 : (Classical.choice ops_ne).ltI 100 ((Classical.choice ops_ne).ln l) = true := by simp only [Ops.all, decide_eq_true_eq]; omega
    simp only [e1]
    cbv
end GoX
/- The statement on a path's end and beginnings. -/
set_option autoImplicit false
set_option maxRecDepth 100000
namespace GoX
open Go GoX.M

theorem steps_take (r : Roll) (l : List Change) (k : Nat) : steps r (l.take k) = (steps r l).take (k + 1) := by
  induction l generalizing r k with
  | nil => simp [steps]
  | cons c l ih =>
    cases k with
    | zero => simp [steps]
    | succ k =>
      simp only [steps, List.take_succ_cons]
      split
      · rw [ih]
      · simp
theorem steps_end (r : Roll) (l : List Change) (h : (steps r l).length ≤ l.length) (h0 : 0 < (steps r l).length) : (rollApply ((steps r l)[(steps r l).length - 1]'(by omega)) (l[(steps r l).length - 1]'(by omega))).2 ≠ 0 := by
  induction l generalizing r with
  | nil => simp [steps] at h
  | cons c l ih =>
    simp only [steps] at h h0 ⊢
    by_cases he : (rollApply r c).2 = 0
    · simp only [if_pos he] at h h0 ⊢
      have hp := steps_pos (rollApply r c).1 l
      have := ih (rollApply r c).1 (by simpa using h) hp
      simp only [List.length_cons, Nat.add_sub_cancel]
      obtain ⟨n, hn⟩ : ∃ n, (steps (rollApply r c).1 l).length = n + 1 := ⟨_, (Nat.succ_pred_eq_of_pos hp).symm⟩
      simp only [hn, List.getElem_cons_succ]
      simpa only [hn, Nat.add_sub_cancel] using this
    · simp only [if_neg he]
      simpa using he

set_option maxHeartbeats 2000000 in
theorem c5 (r : Roll) (l : List Change) (cut : Int) : Sim S.P 5 [vRoll r, .sl .change l, .i .u8 cut] [] [] (.val (.b true)) [] := by
  refine Sim.facts (fun hA _ => ?_) (fun _ _ _ => rfl)
  have hc := rng_u8 (hA (.i .u8 cut) (by simp))
  clear hA
  obtain ⟨v, m⟩ := r
  refine run5 0 (fun _ => false) 90 (by simp) (fun S' hS => ?_) (fun _ _ _ => rfl)
  unfold xc5
  cbv
  refine ⟨_, _, _, hS.sim c6, ?_⟩
  cbv
  by_cases hl : l.length ≤ 100
  · have e1 : (Classical.choice ops_ne).ltI 100 ((Classical.choice ops_ne).ln l) = false := by simp only [Ops.all, decide_eq_false_iff_not]; omega
    repeat (simp only [e1]; cbv)
    refine ⟨_, _, _, hS.sim (c12 ⟨_, _⟩), ?_⟩
    cases hrr : rollRight ⟨v, m⟩
    · cbv
    · cbv
      refine ⟨_, _, _, hS.sim (c8 _ (by omega)), ?_⟩
      have hP : ∃ p, rollPath ⟨v, m⟩ l = p ∧ (∀ k, rollPath ⟨v, m⟩ (l.take k) = p.take (k + 1)) ∧ 0 < p.length ∧ p.length ≤ l.length + 1 ∧ ∀ (h : p.length ≤ l.length) (h0 : 0 < p.length), (rollApply (p[p.length - 1]'(by omega)) (l[p.length - 1]'(by omega))).2 ≠ 0 := by
        unfold rollPath
        simp only [hrr, if_true]
        exact ⟨_, rfl, fun k => steps_take _ _ _, steps_pos _ _, steps_len _ _, fun h h0 => steps_end _ _ h h0⟩
      obtain ⟨p, hp, hpt, hp0, hpl, hpe⟩ := hP
      obtain ⟨k, hk⟩ : ∃ k, k = cut % ((l.length : Int) + 1) := ⟨_, rfl⟩
      have hk0 : 0 ≤ k ∧ k ≤ l.length := by
        rw [hk]
        exact ⟨Int.emod_nonneg _ (by omega), by have := Int.emod_lt_of_pos cut (show 0 < (l.length : Int) + 1 by omega); omega⟩
      have hw1 : (Classical.choice ops_ne).wr .i64 ((Classical.choice ops_ne).adI ((Classical.choice ops_ne).ln l) 1) ≠ 0 := by simp only [Ops.all, wraps]; omega
      have hw2 : (Classical.choice ops_ne).reI ((Classical.choice ops_ne).wr .i64 cut) ((Classical.choice ops_ne).wr .i64 ((Classical.choice ops_ne).adI ((Classical.choice ops_ne).ln l) 1)) = k := by
        simp only [Ops.all, wraps]
        rw [hk, show (cut + 9223372036854775808) % 18446744073709551616 - 9223372036854775808 = cut from by omega, show ((l.length : Int) + 1 + 9223372036854775808) % 18446744073709551616 - 9223372036854775808 = (l.length : Int) + 1 from by omega]
        exact Int.tmod_eq_emod_of_nonneg hc.1
      have hw3 : (Classical.choice ops_ne).tk k l = l.take k.toNat := by simp only [Ops.all]
      have hkn : k.toNat ≤ l.length := by omega
      cbv
      simp only [hw2]
      refine ⟨⟨hw1⟩, ?_⟩
      refine ⟨_, _, _, hS.sim (c7 ⟨_, _⟩ _ (by omega)), ?_⟩
      rw [hp]
      cbv
      refine ⟨⟨by simp only [defs]; exact hk0⟩, ?_⟩
      refine ⟨_, _, _, hS.sim (c7 ⟨_, _⟩ _ (by simp only [Ops.all]; rw [List.length_take]; omega)), ?_⟩
      simp only [hw3]
      rw [hpt]
      have hq : ∃ q, p.take (k.toNat + 1) = q ∧ q.length = min (k.toNat + 1) p.length ∧ ∀ (i : Nat), i < q.length → q.getD i ⟨0, 0⟩ = p.getD i ⟨0, 0⟩ := by
        refine ⟨_, rfl, List.length_take, fun i hi => ?_⟩
        rw [List.length_take] at hi
        rw [List.getD_eq_getElem?_getD, List.getD_eq_getElem?_getD, List.getElem?_take, if_pos (by omega)]
      obtain ⟨q, hq, hql, hqe⟩ := hq
      rw [hq]
      have f1 : (Classical.choice ops_ne).eqI ((Classical.choice ops_ne).ln q) 0 = false := by simp only [Ops.all, decide_eq_false_iff_not]; omega
      have f2 : (Classical.choice ops_ne).ltI ((Classical.choice ops_ne).ln p) ((Classical.choice ops_ne).ln q) = false := by simp only [Ops.all, decide_eq_false_iff_not]; omega
      have f3 : (Classical.choice ops_ne).eqI ((Classical.choice ops_ne).ln q) ((Classical.choice ops_ne).mn2 ((Classical.choice ops_ne).ln p) ((Classical.choice ops_ne).wr .i64 ((Classical.choice ops_ne).adI k 1))) = true := by
        simp only [Ops.all, wraps, decide_eq_true_eq]
        rw [show (k + 1 + 9223372036854775808) % 18446744073709551616 - 9223372036854775808 = k + 1 from by omega]
        split <;> omega
      cbv
      repeat (first | (simp only [f1]; cbv) | (simp only [f2]; cbv) | (simp only [f3]; cbv))
      refine VK_loop (α := Int) (fun i => 0 ≤ i ∧ i ≤ 1000) (fun i => ⟨[(7, .sl .change l), (9, .sl .roll p), (10, .sl .roll q), (61, .i .i64 (ln q)), (62, .i .i64 i)], []⟩) (fun i => q.length - i.toNat) ?_ ⟨0, by omega, ?_⟩
      · rintro i ⟨h1, h1'⟩
        refine hS.run 90 ?_
        cbv
        by_cases hi : i < (q.length : Int)
        · have g1 : (Classical.choice ops_ne).ltI i ((Classical.choice ops_ne).ln q) = true := by simp only [Ops.all, decide_eq_true_eq]; exact hi
          have hi1 : 0 ≤ i ∧ i < q.length := by omega
          have hi2 : 0 ≤ i ∧ i < p.length := by omega
          have hi3 : i + 1 ≤ 1000 ∧ q.length - (i + 1).toNat < q.length - i.toNat := by omega
          have same : ∀ x : Int, (Classical.choice ops_ne).eqI x x = true := fun x => by simp [Ops.all]
          have g2 : (Classical.choice ops_ne).gt q i ⟨0, 0⟩ = (Classical.choice ops_ne).gt p i ⟨0, 0⟩ := by simp only [Ops.all]; exact hqe _ (by omega)
          simp only [g1]
          cbv
          refine ⟨⟨by simp only [defs]; exact hi1⟩, ⟨by simp only [defs]; exact hi2⟩, ?_⟩
          simp only [g2]
          simp only [same]
          cbv
          refine ⟨i + 1, ⟨by omega, hi3.1⟩, hi3.2, ?_⟩
          generalize hj' : i + 1 = i'
          refine Wk.rn [] rfl ?_ (by cbv; try simp [Ops.all])
          cbv
          simp only [Ops.all, wraps, true_and, and_true, V.i.injEq]
          omega
        · have g1 : (Classical.choice ops_ne).ltI i ((Classical.choice ops_ne).ln q) = false := by simp only [Ops.all, decide_eq_false_iff_not]; exact hi
          simp only [g1]
          cbv
          refine hS.run 90 ?_
          cbv
          by_cases hpl' : p.length ≤ l.length
          · have g2 : (Classical.choice ops_ne).leI ((Classical.choice ops_ne).ln p) ((Classical.choice ops_ne).ln l) = true := by simp only [Ops.all, decide_eq_true_eq]; omega
            obtain ⟨j, hj⟩ : ∃ j, j = p.length - 1 := ⟨_, rfl⟩
            have hj1 : (0 : Int) ≤ j ∧ (j : Int) < p.length := by omega
            have hj2 : (0 : Int) ≤ j ∧ (j : Int) < l.length := by omega
            have hw : (Classical.choice ops_ne).wr .i64 ((Classical.choice ops_ne).sbI ((Classical.choice ops_ne).ln p) 1) = (j : Int) := by simp only [Ops.all, wraps]; omega
            have hne := hpe hpl' hp0
            have hg1 : (Classical.choice ops_ne).gt p (j : Int) ⟨0, 0⟩ = p[p.length - 1] := by
              simp only [Ops.all, Int.toNat_natCast]
              rw [List.getD_eq_getElem?_getD, List.getElem?_eq_getElem (by omega)]
              simp only [Option.getD_some, hj]
            have hg2 : (Classical.choice ops_ne).gt l (j : Int) ⟨false, 0⟩ = l[p.length - 1] := by
              simp only [Ops.all, Int.toNat_natCast]
              rw [List.getD_eq_getElem?_getD, List.getElem?_eq_getElem (by omega)]
              simp only [Option.getD_some, hj]
            generalize p[p.length - 1] = x at *
            generalize l[p.length - 1] = y at *
            obtain ⟨x1, x2⟩ := x
            obtain ⟨y1, y2⟩ := y
            generalize (j : Int) = jj at *
            simp only [g2]
            cbv
            simp only [hw]
            simp only [hg1, hg2]
            refine ⟨⟨by simp only [defs]; exact hj1⟩, ⟨by simp only [defs]; exact hj2⟩, ?_⟩
            refine ⟨_, _, _, hS.sim (c10 ⟨x1, x2⟩ ⟨y1, y2⟩), ?_⟩
            generalize hra : rollApply ⟨x1, x2⟩ ⟨y1, y2⟩ = ra at *
            obtain ⟨⟨a1, a2⟩, a3⟩ := ra
            simp only at hne
            have g3 : (Classical.choice ops_ne).eqI a3 0 = false := by simp only [Ops.all, decide_eq_false_iff_not]; exact hne
            cbv
            repeat (simp only [g3]; cbv)
          · have g2 : (Classical.choice ops_ne).leI ((Classical.choice ops_ne).ln p) ((Classical.choice ops_ne).ln l) = false := by simp only [Ops.all, decide_eq_false_iff_not]; omega
            repeat (simp only [g2]; cbv)
      · exact Wk.rn [] rfl (by cbv; try simp [Ops.all]) (by cbv; try simp [Ops.all])
  · have e1 : (Classical.choice ops_ne).ltI 100 ((Classical.choice ops_ne).ln l) = true := by simp only [Ops.all, decide_eq_true_eq]; omega
    repeat (simp only [e1]; cbv)
end GoX
