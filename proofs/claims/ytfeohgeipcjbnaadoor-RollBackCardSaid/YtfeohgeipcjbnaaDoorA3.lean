/- Joined by a program (merge.py) out of own texts: X33 X34 X35 X36 X37 X38 X39 J1 J2 L1 Y0 Y1 C1 C2 C3 C4 C5 C6. -/
import Derived.Test.YtfeohgeipcjbnaaDoorA2
import Derived.IntWalk
import Derived.ProofKit
import Derived.LaidMore
import Derived.OpenShut
import Derived.Below
import Derived.WideKeyArgs
import Derived.ChangeSame
import Derived.LaidByTextLater
import Derived.Test.YtfeohgeipcjbnaaDoorProg
import Derived.BigRegion
import Derived.KernelRfl
set_option linter.unusedSimpArgs false
set_option linter.unusedVariables false
/- Code: what the abstract machine shows holds of the machine. -/
set_option autoImplicit false
namespace GoX
open Go

section
variable {S : Setting} {n : Nat} {a : Go.Act} {w : World}

theorem unwQ_panic {Q : Exit → Go.Act → World → Prop} {ch : List PanicEntry} : ∀ {k : List KI}, unwQ S Q k (.panic ch) a w = Q (.panic ch) a w
  | [] => by simp only [unwQ]
  | .c _ :: k => by simp only [unwQ]; exact unwQ_panic
  | .blk _ :: k => by simp only [unwQ]; exact unwQ_panic

theorem unwQ_ret {Q : Exit → Go.Act → World → Prop} : ∀ {k : List KI}, unwQ S Q k .ret a w = Q .ret a w
  | [] => by simp only [unwQ]
  | .c _ :: k => by simp only [unwQ]; exact unwQ_ret
  | .blk _ :: k => by simp only [unwQ]; exact unwQ_ret

theorem unwQ_exit {Q : Exit → Go.Act → World → Prop} {id : Nat} : ∀ {k : List KI}, unwQ S Q k (.exit id) a w = match unw id k with | some k' => wpK S Q k' a w | none => Q (.exit id) a w
  | [] => by simp only [unwQ, unw]
  | .c _ :: k => by simp only [unwQ, unw]; exact unwQ_exit
  | .blk j :: k => by
    simp only [unwQ, unw]
    by_cases h : j = id
    · subst h; simp
    · rw [if_neg (fun e => h e.symm), if_neg h]; exact unwQ_exit

/-- behind a piece of code. -/
def Qk (S : Setting) (Q : Exit → Go.Act → World → Prop) (k : List KI) : Exit → Go.Act → World → Prop := fun e a w => match e with
  | .normal => wpK S Q k a w
  | e => unwQ S Q k e a w

theorem wpK_c {Q : Exit → Go.Act → World → Prop} {c : XC} {k : List KI} : wpK S Q (.c c :: k) a w = ∀ c', comp S c' = some c → c'.wp S.P (Qk S Q k) a w := by
  simp only [wpK, wpC]; rfl

theorem comp_inv {c' : Code} {c : XC} (h : comp S c' = some c) : match c with
    | .skip => c' = .skip
    | .ops draw l => ∃ id ops, c' = .region id ops draw ∧ compOps S draw ops = some l
    | .seq x y => ∃ x' y', c' = .seq x' y' ∧ comp S x' = some x ∧ comp S y' = some y
    | .cond o x y => ∃ o' x' y', c' = .cond o' x' y' ∧ ofOpd o' = some o ∧ comp S x' = some x ∧ comp S y' = some y
    | .block id x => ∃ x', c' = .block id x' ∧ comp S x' = some x
    | .loop x => ∃ x', c' = .loop x' ∧ comp S x' = some x
    | .exit id => c' = .exit id
    | .ret => c' = .ret
    | .bad => True := by
  cases c' <;> simp only [comp, bind, Option.bind_eq_some_iff, Option.map_eq_some_iff, pure, Option.some.injEq, reduceCtorEq] at h
  case skip => subst h; rfl
  case region =>
    split at h
    · rename_i l h1
      cases h; exact ⟨_, _, rfl, h1⟩
    · cases h; trivial
  case seq => obtain ⟨x1, h1, y1, h2, rfl⟩ := h; exact ⟨_, _, rfl, h1, h2⟩
  case cond => obtain ⟨o1, h0, x1, h1, y1, h2, rfl⟩ := h; exact ⟨_, _, _, rfl, h0, h1, h2⟩
  case block => obtain ⟨x1, h1, rfl⟩ := h; exact ⟨_, rfl, h1⟩
  case loop => obtain ⟨x1, h1, rfl⟩ := h; exact ⟨_, rfl, h1⟩
  case exit => subst h; rfl
  case ret => subst h; rfl
  all_goals (subst h; trivial)

mutual
theorem no_mono {N N' : Nat → Bool} (hN : ∀ i, N i = true → N' i = true) : (v : V) → v.no N' = true → v.no N = true
  | .pt id _, h | .pa id _ _ _ _ _, h | .pr id _ _ _, h | .ow id _ _ _, h | .mp id, h => by
    simp only [V.no, Bool.not_eq_true'] at h ⊢
    cases hh : N id with
    | false => rfl
    | true => rw [hN id hh] at h; cases h
  | .pi cs, h | .fn _ cs, h | .ifa _ cs, h | .agg cs, h | .tup cs, h => by simp only [V.no] at h ⊢; exact noL_mono hN cs h
  | .ifc _ v, h => by simp only [V.no] at h ⊢; exact no_mono hN v h
  | .junk, _ | .b _, _ | .i _ _, _ | .f _, _ | .u _, _ | .s _, _ | .np, _ | .ni, _ | .nf, _ | .ns, _ | .nm, _ | .sl _ _, _ | .ar _ _ _, _ => rfl
theorem noL_mono {N N' : Nat → Bool} (hN : ∀ i, N i = true → N' i = true) : (l : List V) → noL N' l = true → noL N l = true
  | [], _ => rfl
  | v :: vs, h => by
    simp only [noL, Bool.and_eq_true] at h ⊢
    exact ⟨no_mono hN v h.1, noL_mono hN vs h.2⟩
end

theorem Clean.mono {s : St} {N N' : Nat → Bool} (hN : ∀ i, N i = true → N' i = true) (h : Clean s N') : Clean s N := by
  refine ⟨fun t => no_mono hN _ (h.1 t), fun id o ho => ?_⟩
  obtain ⟨h1, h2⟩ := h.2 id o ho
  refine ⟨?_, ?_⟩
  · cases hh : N id with
    | false => rfl
    | true => rw [hN id hh] at h1; cases h1
  · cases o with
    | cells cs => exact noL_mono hN cs h2
    | tc T cs => exact noL_mono hN cs h2
    | row τ xs => rfl
    | rowc τ xs c => rfl
    | mp κ υ es => rfl

theorem XK_sound (hS : S.Ok) (hmix : S.P.follows .mixedOrders = true) {Q : XE → St → Prop} : ∀ (m : Nat) (k : List KI) (s : St), XK S n Q m k s → VK S n Q k s := by
  intro m
  induction m with
  | zero => intro k s h; exact h.elim
  | succ m ih =>
    intro k s h
    cases k with
    | nil =>
      refine ⟨fun E ρ I a w R => ?_⟩
      simp only [wpK, toQ]
      exact ⟨ρ, I, s, R, h⟩
    | cons i k =>
      cases i with
      | blk id =>
        refine ⟨fun E ρ I a w R => ?_⟩
        simp only [wpK]
        exact (ih k s h).go E ρ I a w R
      | c c =>
        cases c with
        | loop c => exact h
        | bad => exact h.elim
        | skip =>
          refine ⟨fun E ρ I a w R => ?_⟩
          rw [wpK_c]
          intro c' hc
          have := comp_inv hc
          simp only at this; subst this
          exact wp_skip ((ih k s h).go E ρ I a w R)
        | ret =>
          refine ⟨fun E ρ I a w R => ?_⟩
          rw [wpK_c]
          intro c' hc
          have := comp_inv hc
          simp only at this; subst this
          refine wp_ret ?_
          simp only [Qk, unwQ_ret, toQ]
          exact ⟨ρ, I, s, R, h⟩
        | exit id =>
          refine ⟨fun E ρ I a w R => ?_⟩
          rw [wpK_c]
          intro c' hc
          have := comp_inv hc
          simp only at this; subst this
          refine wp_exit ?_
          simp only [Qk, unwQ_exit]
          simp only [XK] at h
          split at h
          · rename_i hu; rw [hu]; exact (ih _ s h).go E ρ I a w R
          · rename_i hu; rw [hu]; exact ⟨ρ, I, s, R, h⟩
        | seq x y =>
          refine ⟨fun E ρ I a w R => ?_⟩
          rw [wpK_c]
          intro c' hc
          obtain ⟨x', y', rfl, h1, h2⟩ := comp_inv hc
          have := (ih _ s h).go E ρ I a w R
          rw [wpK_c] at this
          refine wp_seq (wp_mono (this x' h1) ?_)
          intro e a' w' he
          cases e with
          | normal =>
            simp only [Qk] at he
            rw [wpK_c] at he
            exact he y' h2
          | exit id => simp only [Qk, unwQ] at he; exact he
          | goto l => simp only [Qk, unwQ] at he; exact he
          | ret => simp only [Qk, unwQ] at he; exact he
          | panic ch => simp only [Qk, unwQ] at he; exact he
          | outgrown => simp only [Qk, unwQ] at he; exact he
        | block id x =>
          refine ⟨fun E ρ I a w R => ?_⟩
          rw [wpK_c]
          intro c' hc
          obtain ⟨x', rfl, h1⟩ := comp_inv hc
          have := (ih _ s h).go E ρ I a w R
          rw [wpK_c] at this
          refine wp_block (wp_mono (this x' h1) ?_)
          intro e a' w' he
          cases e with
          | normal => simp only [Qk, wpK] at he; exact he
          | exit id' =>
            simp only [Qk, unwQ] at he
            show if id' = id then _ else _
            split
            · rename_i hh; rw [if_pos hh] at he; exact he
            · rename_i hh; rw [if_neg hh] at he; exact he
          | goto l => simp only [Qk, unwQ] at he; exact he
          | ret => simp only [Qk, unwQ] at he; exact he
          | panic ch => simp only [Qk, unwQ] at he; exact he
          | outgrown => simp only [Qk, unwQ] at he; exact he
        | cond o x y =>
          refine ⟨fun E ρ I a w R => ?_⟩
          rw [wpK_c]
          intro c' hc
          obtain ⟨o', x', y', rfl, h0, h1, h2⟩ := comp_inv hc
          simp only [XK] at h
          split at h
          · rename_i t ht
            have hv := R.rx.ev h0
            rw [ht] at hv
            refine wp_cond (t := t) hv.b ?_
            unfold XIf at h
            split at h
            · have := (ih _ s h).go E ρ I a w R
              rw [wpK_c] at this
              exact this x' h1
            · have := (ih _ s h).go E ρ I a w R
              rw [wpK_c] at this
              exact this y' h2
          · exact h.elim
        | ops draw l =>
          refine ⟨fun E ρ I a w R => ?_⟩
          rw [wpK_c]
          intro c' hc
          obtain ⟨id, ops, rfl, hl⟩ := comp_inv hc
          simp only [XK] at h
          unfold XIf at h
          split at h
          case h_2 => exact h.elim
          rename_i hB
          have hp : ∀ v s', Q (.pan v) s' → ∀ ρ' I' a' w' x, RS E n ρ' I' s' a' w' → DenV1 ρ' I' w' v x → Qk S (toQ E n Q) k (.panic [{ v := x, recovered := false }]) a' w' := by
            intro v s' hq ρ' I' a' w' x R' hd
            simp only [Qk, unwQ_panic, toQ]
            exact ⟨ρ', I', s', R', v, x, rfl, hd, hq⟩
          cases draw with
          | false =>
            refine region_sound hS hl hB ?_ hp h R
            intro s' log hk ρ' I' a' w' R'
            simp only [Bool.false_and] at hk
            exact (ih k s' hk).go E ρ' I' a' w' R'
          | true =>
            refine draw_sound hS hl hB hmix ?_ ?_ ?_ h (R.scrub _)
            · intro s' log hok hk ρ' I' a' w' R'
              rw [hok] at hk
              exact (ih k s' hk).go E ρ' I' a' w' R'
            · intro s' log hk
              cases hok : okPairs log with
              | true => rfl
              | false => rw [hok] at hk; exact hk.elim
            · intro d hd
              exact (scrub_clean s (fun id => (keysOf l).any fun d => keyN d id)).mono (fun i hi => List.any_eq_true.2 ⟨d, hd, hi⟩)
end
end GoX
/- Loops; what is forgotten and renamed; rows that nobody will write. -/
set_option autoImplicit false
namespace GoX
open Go

/-! what tells no more -/
mutual
def V.le : V → V → Prop
  | .ns, .sl _ xs => xs = []
  | .agg a, .agg b => leL a b
  | .tup a, .tup b => leL a b
  | .pi a, .pi b => leL a b
  | .fn f a, .fn g b => f = g ∧ leL a b
  | .ifa f a, .ifa g b => f = g ∧ leL a b
  | .ifc t a, .ifc u b => t = u ∧ a.le b
  | a, b => a = b
def leL : List V → List V → Prop
  | [], [] => True
  | a :: az, b :: bs => a.le b ∧ leL az bs
  | _, _ => False
end

def XObj.le : XObj → XObj → Prop
  | .cells a, .cells b => leL a b
  | .tc T a, .tc U b => T = U ∧ leL a b
  | .tc _ a, .cells b => leL a b
  | .rowc τ a _, .row υ b => XObj.row τ a = .row υ b
  | a, b => a = b

section
variable {ρ : Nat → Place} {I : Nat → Prop} {w : World}

theorem leL_cons {a : V} {az ds : List V} (h : leL (a :: az) ds) : ∃ d ds', ds = d :: ds' ∧ a.le d ∧ leL az ds' := by
  cases ds with
  | nil => simp only [leL] at h
  | cons d ds => simp only [leL] at h; exact ⟨d, ds, rfl, h.1, h.2⟩

theorem DenL.le {cs ds : List V} {vs : List Value} (h : DenL ρ I w cs vs) (hl : leL cs ds) : DenL ρ I w ds vs := by
  induction h generalizing ds with
  | nil => cases ds with
    | nil => exact .nil
    | cons d ds => simp only [leL] at hl
  | junk x h1 _ ih => obtain ⟨d, ds, rfl, h2, h3⟩ := leL_cons hl; cases d <;> simp [V.le] at h2; exact .junk x h1 (ih h3)
  | b x _ ih => obtain ⟨d, ds, rfl, h2, h3⟩ := leL_cons hl; cases d <;> simp [V.le] at h2; subst h2; exact .b x (ih h3)
  | i k x hr _ ih => obtain ⟨d, ds, rfl, h2, h3⟩ := leL_cons hl; cases d <;> simp [V.le] at h2; obtain ⟨rfl, rfl⟩ := h2; exact .i k x hr (ih h3)
  | f x _ ih => obtain ⟨d, ds, rfl, h2, h3⟩ := leL_cons hl; cases d <;> simp [V.le] at h2; subst h2; exact .f x (ih h3)
  | u x _ ih => obtain ⟨d, ds, rfl, h2, h3⟩ := leL_cons hl; cases d <;> simp [V.le] at h2; subst h2; exact .u x (ih h3)
  | s x h1 _ ih => obtain ⟨d, ds, rfl, h2, h3⟩ := leL_cons hl; cases d <;> simp [V.le] at h2; subst h2; exact .s x h1 (ih h3)
  | np _ ih => obtain ⟨d, ds, rfl, h2, h3⟩ := leL_cons hl; cases d <;> simp [V.le] at h2; exact .np (ih h3)
  | ni _ ih => obtain ⟨d, ds, rfl, h2, h3⟩ := leL_cons hl; cases d <;> simp [V.le] at h2; exact .ni (ih h3)
  | nf _ ih => obtain ⟨d, ds, rfl, h2, h3⟩ := leL_cons hl; cases d <;> simp [V.le] at h2; exact .nf (ih h3)
  | ns _ ih =>
    obtain ⟨d, ds, rfl, h2, h3⟩ := leL_cons hl
    cases d <;> simp [V.le] at h2
    · exact .ns (ih h3)
    · subst h2; exact .sl0 _ none 0 (ih h3)
  | nm _ ih => obtain ⟨d, ds, rfl, h2, h3⟩ := leL_cons hl; cases d <;> simp [V.le] at h2; exact .nm (ih h3)
  | pt id off _ ih => obtain ⟨d, ds, rfl, h2, h3⟩ := leL_cons hl; cases d <;> simp [V.le] at h2; obtain ⟨rfl, rfl⟩ := h2; exact .pt _ _ (ih h3)
  | pa id off τ n ix sub h0 h1 _ ih =>
    obtain ⟨d, ds, rfl, h2, h3⟩ := leL_cons hl
    have : d = .pa id off τ n ix sub := by cases d <;> simp [V.le] at h2 ⊢; obtain ⟨rfl, rfl, rfl, rfl, rfl, rfl⟩ := h2; simp
    subst this; exact .pa _ _ _ _ _ _ h0 h1 (ih h3)
  | pr id τ ix sub h0 _ ih =>
    obtain ⟨d, ds, rfl, h2, h3⟩ := leL_cons hl
    have : d = .pr id τ ix sub := by cases d <;> simp [V.le] at h2 ⊢; obtain ⟨rfl, rfl, rfl, rfl⟩ := h2; simp
    subst this; exact .pr _ _ _ _ h0 (ih h3)
  | pi ps ws blk off hb h1 hc _ ih1 ih =>
    obtain ⟨d, ds, rfl, h2, h3⟩ := leL_cons hl
    cases d <;> simp only [V.le, reduceCtorEq] at h2
    exact .pi _ ws blk off hb (ih1 h2) hc (ih h3)
  | sl0 τ ad cap _ ih =>
    obtain ⟨d, ds, rfl, h2, h3⟩ := leL_cons hl
    have : d = .sl τ [] := by cases d <;> first | (simp only [V.le, reduceCtorEq] at h2; done) | (simp only [V.le] at h2; exact h2.symm)
    subst this; exact .sl0 _ _ _ (ih h3)
  | sl τ xs blk off cap g hb hl' ho h1 hc _ ih1 ih =>
    obtain ⟨d, ds, rfl, h2, h3⟩ := leL_cons hl
    have : d = .sl τ xs := by cases d <;> first | (simp only [V.le, reduceCtorEq] at h2; done) | (simp only [V.le] at h2; exact h2.symm)
    subst this; exact .sl _ _ blk off cap g hb hl' ho h1 hc (ih h3)
  | ow id τ off len ad h1 h2 h3 h5 h4 _ ih =>
    obtain ⟨d, ds, rfl, g2, g3⟩ := leL_cons hl
    have : d = .ow id τ off len := by cases d <;> first | (simp only [V.le, reduceCtorEq] at g2; done) | (simp only [V.le] at g2; exact g2.symm)
    subst this; exact .ow _ _ _ _ ad h1 h2 h3 h5 h4 (ih g3)
  | ar τ xs ws h1 _ _ ih =>
    obtain ⟨d, ds, rfl, h2, h3⟩ := leL_cons hl
    have : d = .ar τ xs.length xs := by cases d <;> first | (simp only [V.le, reduceCtorEq] at h2; done) | (simp only [V.le] at h2; exact h2.symm)
    subst this; exact .ar _ _ _ h1 (ih h3)
  | fn f caps ws _ _ ih1 ih =>
    obtain ⟨d, ds, rfl, h2, h3⟩ := leL_cons hl
    cases d <;> simp only [V.le, reduceCtorEq] at h2
    obtain ⟨rfl, h2⟩ := h2
    exact .fn _ _ ws (ih1 h2) (ih h3)
  | ifa f caps ws _ _ ih1 ih =>
    obtain ⟨d, ds, rfl, h2, h3⟩ := leL_cons hl
    cases d <;> simp only [V.le, reduceCtorEq] at h2
    obtain ⟨rfl, h2⟩ := h2
    exact .ifa _ _ ws (ih1 h2) (ih h3)
  | mp id _ ih => obtain ⟨d, ds, rfl, h2, h3⟩ := leL_cons hl; cases d <;> simp [V.le] at h2; subst h2; exact .mp _ (ih h3)
  | ifc t t' v x h0 _ _ ih1 ih =>
    obtain ⟨d, ds, rfl, h2, h3⟩ := leL_cons hl
    cases d <;> simp only [V.le, reduceCtorEq] at h2
    obtain ⟨rfl, h2⟩ := h2
    exact .ifc _ _ _ x (fun hb => h0 (by rintro rfl; simp only [V.le] at h2; exact hb h2.symm)) (fun hb => ih1 (by rintro rfl; simp only [V.le] at h2; exact hb h2.symm) (by simp only [leL]; exact ⟨h2, trivial⟩)) (ih h3)

theorem DenV1.le {v u : V} {x : Value} (h : DenV1 ρ I w v x) (hl : v.le u) : DenV1 ρ I w u x := by
  have go : DenL ρ I w [v] [x] → DenV1 ρ I w u x := by
    intro h
    have h1 := h.le (ds := [u]) (by simp only [leL]; exact ⟨hl, trivial⟩)
    cases u <;> first
      | trivial
      | exact h1
      | cases h1
  cases v <;> first
    | (obtain ⟨vs, rfl, h⟩ := h
       cases u <;> simp only [V.le, reduceCtorEq] at hl
       exact ⟨vs, rfl, h.le hl⟩)
    | (cases u <;> simp only [V.le, reduceCtorEq] at hl <;> trivial)
    | exact go h

theorem DenT.le {vs us : List V} {xs : List Value} (h : DenT ρ I w vs xs) (hl : leL vs us) : DenT ρ I w us xs := by
  induction h generalizing us with
  | nil => cases us with
    | nil => exact .nil
    | cons d ds => simp only [leL] at hl
  | cons h1 _ ih => obtain ⟨d, ds, rfl, h2, h3⟩ := leL_cons hl; exact .cons (h1.le h2) (ih h3)

theorem DenV.le {v u : V} {x : Value} (h : DenV ρ I w v x) (hl : v.le u) : DenV ρ I w u x := by
  have go : DenV1 ρ I w v x → (∀ cs, u ≠ .tup cs) → DenV ρ I w u x := by
    intro h hu
    have h1 := h.le hl
    cases u <;> first
      | exact h1
      | (exact absurd rfl (hu _))
  cases v <;> first
    | (obtain ⟨vs, rfl, h⟩ := h
       cases u <;> simp only [V.le, reduceCtorEq] at hl
       exact ⟨vs, rfl, h.le hl⟩)
    | (refine go h ?_; intro cs e; subst e; simp only [V.le, reduceCtorEq] at hl)

theorem ObjOk.le {p : Place} {o o' : XObj} (h : ObjOk ρ I w p o) (hl : o.le o') : ObjOk ρ I w p o' := by
  cases o with
  | cells cs =>
    cases o' <;> first | (simp only [XObj.le, reduceCtorEq] at hl; done) | skip
    obtain ⟨vs, T, fr, h1, h2, h3⟩ := h
    exact ⟨vs, T, fr, h1, h2.le hl, h3⟩
  | tc T cs =>
    cases o' <;> first | (simp only [XObj.le, reduceCtorEq] at hl; done) | skip
    · obtain ⟨vs, fr, h1, h2, h3⟩ := h
      exact ⟨vs, _, fr, h1, h2.le hl, h3⟩
    · obtain ⟨vs, fr, h1, h2, h3⟩ := h
      obtain ⟨rfl, hl⟩ := hl
      exact ⟨vs, fr, h1, h2.le hl, h3⟩
  | row τ xs =>
    have : o' = .row τ xs := by cases o' <;> first | (simp only [XObj.le, reduceCtorEq] at hl; done) | (simp only [XObj.le] at hl; exact hl.symm)
    subst this; exact h
  | rowc τ xs c =>
    cases o' <;> first | (simp only [XObj.le, reduceCtorEq] at hl; done) | skip
    · simp only [XObj.le] at hl
      rw [← hl]; exact h.2
    · simp only [XObj.le] at hl
      rw [← hl]; exact h
  | mp κ υ es =>
    have : o' = .mp κ υ es := by cases o' <;> first | (simp only [XObj.le, reduceCtorEq] at hl; done) | (simp only [XObj.le] at hl; exact hl.symm)
    subst this; exact h

theorem owns_le {p : Place} {o o' : XObj} (hl : o.le o') : owns p o' ↔ owns p o := by
  cases o <;> cases o' <;> first | rfl | (simp only [XObj.le, reduceCtorEq] at hl; done)
end

/-! weakening -/

structure Wk (s s' : St) : Prop where
  go : ∀ (E : Ent) (n : Nat) ρ I a w, RS E n ρ I s a w → ∃ ρ' I', RS E n ρ' I' s' a w

theorem Wk.trans {s s' s'' : St} (h : Wk s s') (h' : Wk s' s'') : Wk s s'' :=
  ⟨fun E n ρ I a w R => let ⟨ρ', I', R'⟩ := h.go E n ρ I a w R; h'.go E n ρ' I' a w R'⟩

def nodupB : List Nat → Bool
  | [] => true
  | x :: l => !l.contains x && nodupB l

/-- a renaming: one to one, and what was given keeps its number. -/
def rnOk (r : List (Nat × Nat)) : Bool := nodupB (r.map (·.1)) && nodupB (r.map (·.2)) && r.all fun p => decide (32 ≤ p.2) || p.1 == p.2

theorem nodup_lk {r : List (Nat × Nat)} (h : nodupB (r.map (·.1)) = true) {a b : Nat} (hm : (a, b) ∈ r) : lk r a = some b := by
  induction r with
  | nil => cases hm
  | cons p r ih =>
    obtain ⟨x, y⟩ := p
    simp only [List.map_cons, nodupB, Bool.and_eq_true, Bool.not_eq_true'] at h
    cases hm with
    | head => simp [lk]
    | tail _ hm =>
      simp only [lk]
      split
      · rename_i hx
        subst hx
        have : (r.map (·.1)).contains x = true := by simp only [List.contains_iff_mem, List.mem_map]; exact ⟨_, hm, rfl⟩
        rw [h.1] at this; cases this
      · exact ih h.2 hm

theorem rn_unpair {r : List (Nat × Nat)} (h : rnOk r = true) {j id : Nat} : lk (unpair r) j = some id ↔ lk r id = some j := by
  simp only [rnOk, Bool.and_eq_true] at h
  obtain ⟨⟨h1, h2⟩, _⟩ := h
  have h2' : nodupB ((unpair r).map (·.1)) = true := by
    unfold unpair
    rw [List.map_map]; exact h2
  constructor
  · intro hl
    have hm := lk_mem hl
    unfold unpair at hm
    obtain ⟨p, hp, e⟩ := List.mem_map.1 hm
    injection e with e1 e2
    subst e1; subst e2
    exact nodup_lk h1 hp
  · intro hl
    exact nodup_lk h2' (List.mem_map.2 ⟨(id, j), lk_mem hl, rfl⟩)

theorem rn_low {r : List (Nat × Nat)} (h : rnOk r = true) {j id : Nat} (hl : lk r id = some j) (hj : j < 32) : id = j := by
  simp only [rnOk, Bool.and_eq_true, List.all_eq_true] at h
  have := h.2 _ (lk_mem hl)
  simp only [Bool.or_eq_true, decide_eq_true_eq, beq_iff_eq] at this
  rcases this with h | h
  · omega
  · exact h

section
variable {ρ : Nat → Place} {I : Nat → Prop} {w : World}

theorem rhoIn_eq' {r : List (Nat × Nat)} (hr : rnOk r = true) : ∀ i j, lk r i = some j → rhoIn ρ r j = ρ i := by
  intro i j h
  unfold rhoIn
  rw [(rn_unpair hr).2 h]

/-- a heap under other numbers, of which some is forgotten. -/
theorem rn_RH {h : Hf} {h' : Hf} (H : RH ρ I w h) {r : List (Nat × Nat)} (hr : rnOk r = true) (key : ∀ j o, h' j = some o → ∃ id o', lk r id = some j ∧ h id = some o' ∧ (o'.rn r).le o) :
    RH (rhoIn ρ r) I w h' ∧ (∀ b, Own (rhoIn ρ r) h' b → Own ρ h b) := by
  refine ⟨⟨H.glob, ?_, ?_, ?_, H.lt⟩, ?_⟩
  · intro j o hj
    obtain ⟨id, o', h1, h2, hle⟩ := key j o hj
    rw [rhoIn_eq' hr id j h1]
    exact ((H.ok id o' h2).rn (rhoIn_eq' hr)).le hle
  · intro j o j' p hj hj' hne hw hw'
    obtain ⟨id, o', h1, h2, hle⟩ := key j o hj
    obtain ⟨id', p', h3, h4, hle'⟩ := key j' p hj'
    rw [rhoIn_eq' hr id j h1] at hw ⊢
    rw [rhoIn_eq' hr id' j' h3] at hw' ⊢
    refine H.apart id o' id' p' h2 h4 ?_ (owns_rn.1 ((owns_le hle).1 hw)) (owns_rn.1 ((owns_le hle').1 hw'))
    intro e; subst e; rw [h1] at h3; injection h3 with h3; exact hne h3
  · intro j o hj hw
    obtain ⟨id, o', h1, h2, hle⟩ := key j o hj
    rw [rhoIn_eq' hr id j h1] at hw ⊢
    exact H.own id o' h2 (owns_rn.1 ((owns_le hle).1 hw))
  · rintro b ⟨j, o, hj, hw, rfl⟩
    obtain ⟨id, o', h1, h2, hle⟩ := key j o hj
    rw [rhoIn_eq' hr id j h1] at hw ⊢
    exact ⟨id, o', h2, owns_rn.1 ((owns_le hle).1 hw), rfl⟩

theorem rn_Loc {ρ0 : Nat → Place} {I0 : Nat → Prop} {w0 : World} {h0 h h' : Hf} {r : List (Nat × Nat)} (hr : rnOk r = true) (L : Loc ρ0 I0 w0 h0 ρ I w h lateN) (ho : ∀ b, Own (rhoIn ρ r) h' b → Own ρ h b) :
    Loc ρ0 I0 w0 h0 (rhoIn ρ r) I w h' lateN := by
  refine ⟨L.keep, L.size, L.up, L.down, fun b hb => L.own b (ho b hb), ?_, L.rest⟩
  intro j hj
  have hlt : j < 32 := by simpa [lateN] using hj
  unfold rhoIn
  cases hl : lk (unpair r) j with
  | none => exact L.place j hj
  | some id =>
    have := rn_low hr ((rn_unpair hr).1 hl) hlt
    subst this
    exact L.place id hj
end

/-- some temporaries and some of the heap, under other numbers. -/
def wkT (r : List (Nat × Nat)) (s : St) : List (Nat × V) → Prop
  | [] => True
  | p :: l => ((s.get p.1).rn r).le p.2 ∧ wkT r s l

def wkH (r : List (Nat × Nat)) (s : St) : List (Nat × XObj) → Prop
  | [] => True
  | p :: l => (match lk (unpair r) p.1 with
      | some id => match lk s.h id with
        | some o => (o.rn r).le p.2
        | none => False
      | none => False) ∧ wkH r s l

theorem Wk.rn {s s' : St} (r : List (Nat × Nat)) (hr : rnOk r = true) (ht : wkT r s s'.t) (hh : wkH r s s'.h) : Wk s s' := by
  refine ⟨fun E n ρ I a w R => ?_⟩
  have hT : ∀ {l : List (Nat × V)}, wkT r s l → ∀ t v, lk l t = some v → ((s.get t).rn r).le v := by
    intro l
    induction l with
    | nil => intro _ t v h; cases h
    | cons p l ih =>
      intro h t v hl
      simp only [lk] at hl
      split at hl
      · rename_i e; subst e; injection hl with hl; subst hl; exact h.1
      · exact ih h.2 t v hl
  have hH : ∀ {l : List (Nat × XObj)}, wkH r s l → ∀ j o, lk l j = some o → ∃ id o', lk r id = some j ∧ lk s.h id = some o' ∧ (o'.rn r).le o := by
    intro l
    induction l with
    | nil => intro _ j o h; cases h
    | cons p l ih =>
      intro h j o hl
      simp only [lk] at hl
      split at hl
      · rename_i e
        subst e; injection hl with hl; subst hl
        have h1 := h.1
        split at h1
        · rename_i id hid
          split at h1
          · rename_i o' ho'
            exact ⟨id, o', (rn_unpair hr).1 hid, ho', h1⟩
          · exact h1.elim
        · exact h1.elim
      · exact ih h.2 j o hl
  obtain ⟨H', hown⟩ := rn_RH R.heap hr (hH hh)
  refine ⟨rhoIn ρ r, I, H', R.size, R.nodef, ?_, rn_Loc hr R.loc hown⟩
  intro t
  unfold St.get
  cases hl : lk s'.t t with
  | none => trivial
  | some v =>
    exact ((R.tmps t).rn (rhoIn_eq' hr)).le (hT ht t v hl)

/-! loops -/
theorem least {p : Nat → Prop} : ∀ k, p k → ∃ l, p l ∧ ∀ j, p j → l ≤ j := by
  intro k
  induction k using Nat.strongRecOn with
  | _ k ih =>
    intro hk
    by_cases h : ∃ j, j < k ∧ p j
    · obtain ⟨j, hj, hp⟩ := h
      exact ih j hj hp
    · refine ⟨k, hk, fun j hj => ?_⟩
      rcases Nat.lt_or_ge j k with h' | h'
      · exact absurd ⟨j, h', hj⟩ h
      · exact h'

theorem wp_loop_meas {P : Program} {c : Code} {Q : Exit → Go.Act → World → Prop} {a : Go.Act} {w : World} {α : Type} (Inv : α → Go.Act → World → Prop) (m : α → Nat) (h0 : ∃ x, Inv x a w)
    (round : ∀ x a w, Inv x a w → c.wp P (Exit.then (fun a' w' => ∃ x', m x' < m x ∧ Inv x' a' w') Q) a w) : (Code.loop c).wp P Q a w := by
  classical
  have ex : ∀ a w, ∃ k : Nat, (∃ x, Inv x a w) → (∃ x, Inv x a w ∧ m x = k) ∧ ∀ y, Inv y a w → k ≤ m y := by
    intro a w
    by_cases h : ∃ x, Inv x a w
    · obtain ⟨x, hx⟩ := h
      obtain ⟨l, ⟨y, hy, he⟩, hl⟩ := least (p := fun k => ∃ x, Inv x a w ∧ m x = k) (m x) ⟨x, hx, rfl⟩
      exact ⟨l, fun _ => ⟨⟨y, hy, he⟩, fun z hz => hl _ ⟨z, hz, rfl⟩⟩⟩
    · exact ⟨0, fun h' => absurd h' h⟩
  refine wp_loop (fun a w => ∃ x, Inv x a w) (fun a w => Classical.choose (ex a w)) h0 ?_
  intro a w hI
  obtain ⟨⟨x, hx, he⟩, _⟩ := Classical.choose_spec (ex a w) hI
  refine wp_mono (round x a w hx) ?_
  intro e a' w' hq
  cases e with
  | normal =>
    obtain ⟨x', hlt, hx'⟩ := hq
    have := (Classical.choose_spec (ex a' w') ⟨x', hx'⟩).2 x' hx'
    exact ⟨⟨x', hx'⟩, by omega⟩
  | exit id => exact hq
  | goto l => exact hq
  | ret => exact hq
  | panic ch => exact hq
  | outgrown => exact hq

def loopQ (S : Setting) (n : Nat) (Q : XE → St → Prop) (k : List KI) (next : St → Prop) : XE → St → Prop
  | .norm, s => next s
  | .exit id, s => match unw id k with
    | some k' => VK S n Q k' s
    | none => Q (.exit id) s
  | .ret, s => Q .ret s
  | .pan v, s => Q (.pan v) s

/-- A loop: by a measure, over states that are told by 'st'. -/
theorem VK_loop {S : Setting} {n : Nat} {Q : XE → St → Prop} {c : XC} {k : List KI} {s : St} {α : Type} (Inv : α → Prop) (st : α → St) (m : α → Nat)
    (round : ∀ x, Inv x → VK S n (loopQ S n Q k fun s' => ∃ x', Inv x' ∧ m x' < m x ∧ Wk s' (st x')) [.c c] (st x)) (h0 : ∃ x, Inv x ∧ Wk s (st x)) : VK S n Q (.c (.loop c) :: k) s := by
  refine ⟨fun E ρ I a w R => ?_⟩
  rw [wpK_c]
  intro c' hc
  obtain ⟨x', rfl, h1⟩ := comp_inv hc
  refine wp_loop_meas (fun x a w => Inv x ∧ ∃ ρ I, RS E n ρ I (st x) a w) m ?_ ?_
  · obtain ⟨x, hx, hw⟩ := h0
    obtain ⟨ρ', I', R'⟩ := hw.go E n ρ I a w R
    exact ⟨x, hx, ρ', I', R'⟩
  · rintro x a w ⟨hx, ρ, I, R⟩
    have h2 := (round x hx).go E ρ I a w R
    rw [wpK_c] at h2
    refine wp_mono (h2 x' h1) ?_
    intro e a' w' he
    cases e with
    | normal =>
      simp only [Qk, wpK, toQ, loopQ] at he
      obtain ⟨ρ', I', s', R', y, hy, hlt, hw⟩ := he
      obtain ⟨ρ2, I2, R2⟩ := hw.go E n ρ' I' a' w' R'
      exact ⟨y, hlt, hy, ρ2, I2, R2⟩
    | exit id =>
      simp only [Qk, unwQ, toQ, loopQ] at he
      obtain ⟨ρ', I', s', R', hq⟩ := he
      show Qk S (toQ E n Q) k (.exit id) a' w'
      simp only [Qk, unwQ_exit]
      split at hq
      · rename_i hu; (try rw [hu]); exact hq.go E ρ' I' a' w' R'
      · rename_i hu; (try rw [hu]); exact ⟨ρ', I', s', R', hq⟩
    | goto l =>
      simp only [Qk, unwQ, toQ] at he
      obtain ⟨_, _, _, h⟩ := he
      exact h.elim
    | ret =>
      simp only [Qk, unwQ, toQ, loopQ] at he
      obtain ⟨ρ', I', s', R', hq⟩ := he
      show Qk S (toQ E n Q) k .ret a' w'
      simp only [Qk, unwQ_ret]
      exact ⟨ρ', I', s', R', hq⟩
    | panic ch =>
      simp only [Qk, unwQ, toQ, loopQ] at he
      obtain ⟨ρ', I', s', R', v, x, e1, hd, hq⟩ := he
      show Qk S (toQ E n Q) k (.panic ch) a' w'
      simp only [Qk, unwQ_panic]
      exact ⟨ρ', I', s', R', v, x, e1, hd, hq⟩
    | outgrown =>
      simp only [Qk, unwQ, toQ] at he
      obtain ⟨_, _, _, h⟩ := he
      exact h.elim
end GoX
/- Rows that nobody will write any more. -/
set_option autoImplicit false
namespace GoX
open Go

section
variable (h : List (Nat × XObj)) (q : Nat → Bool)
mutual
/-- rows of these numbers as what nobody writes. -/
noncomputable def V.fz : V → V
  | .ow id τ o n => if q id then (match lk h id with
      | some (.row τ' xs) => if e : τ' = τ then .sl τ (e ▸ tk n (dr o xs)) else .junk
      | _ => .junk) else .ow id τ o n
  | .pr id τ ix sub => if q id then .junk else .pr id τ ix sub
  | .pt id o => .pt id o
  | .pa id o τ n ix sub => .pa id o τ n ix sub
  | .mp id => .mp id
  | .pi cs => .pi (fzL cs)
  | .fn f cs => .fn f (fzL cs)
  | .ifa t cs => .ifa t (fzL cs)
  | .agg cs => .agg (fzL cs)
  | .tup cs => .tup (fzL cs)
  | .ifc t v => .ifc t v.fz
  | .junk => .junk
  | .b x => .b x
  | .i k x => .i k x
  | .f x => .f x
  | .u x => .u x
  | .s x => .s x
  | .np => .np
  | .ni => .ni
  | .nf => .nf
  | .ns => .ns
  | .nm => .nm
  | .sl τ xs => .sl τ xs
  | .ar τ n xs => .ar τ n xs
noncomputable def fzL : List V → List V
  | [] => []
  | v :: vs => v.fz :: fzL vs
end

mutual
/-- what is to be shown for it. -/
def V.fzS : V → Prop
  | .ow id _ o n => if q id then (match lk h id with
      | some (.row _ xs) => Sd (fun _ => o + n ≤ ln xs)
      | _ => True) else True
  | .pi cs => fzSL cs
  | .fn _ cs => fzSL cs
  | .ifa _ cs => fzSL cs
  | .agg cs => fzSL cs
  | .tup cs => fzSL cs
  | .ifc _ v => v.fzS
  | _ => True
def fzSL : List V → Prop
  | [] => True
  | v :: vs => v.fzS ∧ fzSL vs
end

noncomputable def XObj.fz : XObj → XObj
  | .cells cs => .cells (fzL h q cs)
  | .tc T cs => .tc T (fzL h q cs)
  | .row τ xs => .row τ xs
  | .rowc τ xs c => .rowc τ xs c
  | .mp κ υ es => .mp κ υ es
def XObj.fzS : XObj → Prop
  | .cells cs | .tc _ cs => fzSL h q cs
  | _ => True

def isRow : XObj → Bool
  | .row _ _ => true
  | _ => false

def rowAt (id : Nat) : Bool := match lk h id with
  | some (.row _ _) => true
  | _ => false

noncomputable def fzH : List (Nat × XObj) := (h.filter fun p => !(q p.1 && rowAt h p.1)).map fun p => (p.1, p.2.fz h q)

def fzSH : List (Nat × XObj) → Prop
  | [] => True
  | p :: l => p.2.fzS h q ∧ fzSH l
end

section
variable {ρ : Nat → Place} {I : Nat → Prop} {w : World} {h : List (Nat × XObj)} {q : Nat → Bool}

def fzI (ρ : Nat → Place) (I : Nat → Prop) (h : List (Nat × XObj)) (q : Nat → Bool) : Nat → Prop :=
  fun b => I b ∨ ∃ id o, q id = true ∧ lk h id = some o ∧ isRow o = true ∧ owns (ρ id) o ∧ (ρ id).blk = b

theorem fz_row (H : RH ρ I w (lk h)) {id : Nat} {τ : Ty} {off len : Int} {xs : List τ.den} {a : Option Addr} (hq : q id = true) (hl : lk h id = some (.row τ xs)) (hs : off + len ≤ ln xs)
    (h1 : 0 ≤ off) (h2 : 0 ≤ len) (h5 : okLen len.toNat) (h4 : a = some ⟨(ρ id).blk, (ρ id).off + off.toNat * τ.size, none⟩ ∨ off.toNat = (ρ id).cap) {cs : List V} {vs : List Value}
    (hd : DenL ρ (fzI ρ I h q) w cs vs) : DenL ρ (fzI ρ I h q) w (.sl τ (tk len (dr off xs)) :: cs) (.slice a len.toNat ((ρ id).cap - off.toNat) :: vs) := by
  rw [ln_def] at hs
  have hlen : (tk len (dr off xs)).length = len.toNat := by rw [tk_def, dr_def, List.length_take, List.length_drop]; omega
  by_cases hz : len.toNat = 0
  · have : tk len (dr off xs) = [] := List.eq_nil_of_length_eq_zero (by rw [hlen]; exact hz)
    rw [this, hz]
    exact .sl0 τ a _ hd
  · rcases H.ok id _ hl with ⟨_, rfl⟩ | ⟨h0, arr, T, fr, g, g1, g2, g3, g4, g5, g6, g7⟩
    · simp at hs; omega
    · rcases h4 with rfl | h4
      case inr => omega
      have key := DenL.sl (ρ := ρ) (I := fzI ρ I h q) (w := w) τ (tk len (dr off xs)) (ρ id).blk ((ρ id).off + off.toNat * τ.size) ((ρ id).cap - off.toNat) (fun n => g (off.toNat + n))
        (.inr ⟨id, _, hq, hl, rfl, h0, rfl⟩) (by rw [hlen]; omega) (by rw [hlen]; exact h5) ?_ ?_ hd
      · rw [hlen] at key; exact key
      · intro n hn
        rw [hlen] at hn
        have := (g5 (off.toNat + n) (by omega)).mono (N := fun _ => false) (ρ' := ρ) (I' := fzI ρ I h q) (w' := w) (fun b hb => .inl hb) (fun _ _ => rfl) (fun _ _ => rfl) (noL_false _)
        have e : (tk len (dr off xs))[n]'(by rw [hlen]; exact hn) = xs[off.toNat + n]'(by omega) := by simp only [tk_def, dr_def]; simp
        rw [e]; exact this
      · intro n hn
        rw [hlen] at hn
        have := g6 (off.toNat + n) (by omega)
        rw [Nat.add_mul, ← Nat.add_assoc] at this
        exact this

theorem fzL_enc {τ : Ty} {x : τ.den} : fzL h q (enc τ x) = enc τ x := by
  cases τ <;> simp [enc, fzL, V.fz]

theorem fzL_flat {τ : Ty} (xs : List τ.den) : fzL h q (xs.flatMap (enc τ)) = xs.flatMap (enc τ) := by
  have app : ∀ a b : List V, fzL h q (a ++ b) = fzL h q a ++ fzL h q b := by
    intro a b
    induction a with
    | nil => rfl
    | cons x a ih => simp [fzL, ih]
  induction xs with
  | nil => rfl
  | cons x xs ih => rw [List.flatMap_cons, app, fzL_enc, ih]

theorem fzSL_enc {τ : Ty} {x : τ.den} : fzSL h q (enc τ x) := by
  cases τ <;> simp [enc, fzSL, V.fzS]

theorem fzSL_flat {τ : Ty} (xs : List τ.den) : fzSL h q (xs.flatMap (enc τ)) := by
  have app : ∀ a b : List V, fzSL h q a → fzSL h q b → fzSL h q (a ++ b) := by
    intro a b ha hb
    induction a with
    | nil => exact hb
    | cons x a ih => exact ⟨ha.1, ih ha.2⟩
  induction xs with
  | nil => trivial
  | cons x xs ih => rw [List.flatMap_cons]; exact app _ _ fzSL_enc ih

theorem DenL.fz (H : RH ρ I w (lk h)) {cs : List V} {vs : List Value} (hd : DenL ρ I w cs vs) : fzSL h q cs → DenL ρ (fzI ρ I h q) w (fzL h q cs) vs := by
  induction hd with
  | nil => intro _; exact .nil
  | junk x h1 _ ih => intro hs; exact .junk x h1 (ih hs.2)
  | b x _ ih => intro hs; exact .b x (ih hs.2)
  | i k x hr _ ih => intro hs; exact .i k x hr (ih hs.2)
  | f x _ ih => intro hs; exact .f x (ih hs.2)
  | u x _ ih => intro hs; exact .u x (ih hs.2)
  | s x h1 _ ih => intro hs; exact .s x h1 (ih hs.2)
  | np _ ih => intro hs; exact .np (ih hs.2)
  | ni _ ih => intro hs; exact .ni (ih hs.2)
  | nf _ ih => intro hs; exact .nf (ih hs.2)
  | ns _ ih => intro hs; exact .ns (ih hs.2)
  | nm _ ih => intro hs; exact .nm (ih hs.2)
  | pt id off _ ih => intro hs; exact .pt id off (ih hs.2)
  | pa id off τ n ix sub h0 h1 _ ih => intro hs; exact .pa id off τ n ix sub h0 h1 (ih hs.2)
  | pr id τ ix sub h0 _ ih =>
    intro hs
    simp only [fzL, V.fz]
    split
    · exact .junk _ rfl (ih hs.2)
    · exact .pr id τ ix sub h0 (ih hs.2)
  | pi ps ws blk off hb _ hc _ ih1 ih => intro hs; exact .pi _ ws blk off (.inl hb) (ih1 hs.1) hc (ih hs.2)
  | sl0 τ ad cap _ ih => intro hs; exact .sl0 τ ad cap (ih hs.2)
  | sl τ xs blk off cap g hb hl ho h1 hc _ ih1 ih => intro hs; exact .sl τ xs blk off cap g (.inl hb) hl ho (fun n hn => by have := ih1 n hn fzSL_enc; rwa [fzL_enc] at this) hc (ih hs.2)
  | ow id τ off len ad h1 h2 h3 h5 h4 _ ih =>
    intro hs
    have hs1 := hs.1
    simp only [fzL, V.fz]
    simp only [V.fzS] at hs1
    split
    · rename_i hq
      rw [if_pos hq] at hs1
      split
      · rename_i τ' xs hlk
        rw [hlk] at hs1
        split
        · rename_i e; subst e
          exact fz_row H hq hlk hs1.h h1 h2 h5 h4 (ih hs.2)
        · exact .junk _ rfl (ih hs.2)
      · exact .junk _ rfl (ih hs.2)
    · exact .ow id τ off len ad h1 h2 h3 h5 h4 (ih hs.2)
  | ar τ xs ws _ _ ih1 ih => intro hs; have := ih1 (fzSL_flat xs); rw [fzL_flat] at this; exact .ar τ xs ws this (ih hs.2)
  | fn f caps ws _ _ ih1 ih => intro hs; exact .fn f _ ws (ih1 hs.1) (ih hs.2)
  | ifa t ps ws _ _ ih1 ih => intro hs; exact .ifa t _ ws (ih1 hs.1) (ih hs.2)
  | mp id _ ih => intro hs; exact .mp id (ih hs.2)
  | ifc t t' v x h0 _ _ ih1 ih => intro hs; exact .ifc t t' _ x (fun h => h0 (by rintro rfl; exact h (by simp [V.fz]))) (fun h => ih1 (by rintro rfl; exact h (by simp [V.fz])) ⟨hs.1, trivial⟩) (ih hs.2)

theorem DenV1.fz (H : RH ρ I w (lk h)) {v : V} {x : Value} (hd : DenV1 ρ I w v x) (hs : v.fzS h q) : DenV1 ρ (fzI ρ I h q) w (v.fz h q) x := by
  have go : DenL ρ I w [v] [x] → DenV1 ρ (fzI ρ I h q) w (v.fz h q) x := by
    intro hd
    have h1 := hd.fz (q := q) H ⟨hs, trivial⟩
    simp only [fzL] at h1
    generalize v.fz h q = u at h1
    cases u <;> first
      | trivial
      | exact h1
      | cases h1
  cases v <;> first
    | trivial
    | (obtain ⟨vs, rfl, hd⟩ := hd; exact ⟨vs, rfl, hd.fz H hs⟩)
    | exact go hd

theorem DenT.fz (H : RH ρ I w (lk h)) {vs : List V} {xs : List Value} (hd : DenT ρ I w vs xs) : fzSL h q vs → DenT ρ (fzI ρ I h q) w (fzL h q vs) xs := by
  induction hd with
  | nil => intro _; exact .nil
  | cons h1 _ ih => intro hs; exact .cons (h1.fz H hs.1) (ih hs.2)

theorem DenV.fz (H : RH ρ I w (lk h)) {v : V} {x : Value} (hd : DenV ρ I w v x) (hs : v.fzS h q) : DenV ρ (fzI ρ I h q) w (v.fz h q) x := by
  have go : DenV1 ρ I w v x → (∀ cs, v.fz h q ≠ .tup cs) → DenV ρ (fzI ρ I h q) w (v.fz h q) x := by
    intro hd hv
    have h1 := hd.fz (q := q) H hs
    generalize v.fz h q = u at h1 hv
    cases u <;> first
      | exact h1
      | (exact absurd rfl (hv _))
  cases v <;> first
    | (obtain ⟨vs, rfl, hd⟩ := hd; exact ⟨vs, rfl, hd.fz H hs⟩)
    | (refine go hd ?_; intro cs; simp only [V.fz]; first | (intro e; cases e; done) | (split <;> first | (intro e; cases e; done) | (split <;> first | (intro e; cases e; done) | (split <;> (intro e; cases e)))))

theorem lk_fzH (id : Nat) : lk (fzH h q) id = if q id && rowAt h id then none else (lk h id).map (·.fz h q) := by
  unfold fzH
  rw [lk_map (f := fun o : XObj => o.fz h q), lk_filter (q := fun i => !(q i && rowAt h i))]
  by_cases hq : (q id && rowAt h id) = true
  · rw [hq]; rfl
  · rw [Bool.not_eq_true] at hq; rw [hq]; rfl

theorem fzH_some {id : Nat} {o : XObj} (hl : lk (fzH h q) id = some o) : ∃ o', lk h id = some o' ∧ o = o'.fz h q ∧ (isRow o' = true → q id = false) := by
  rw [lk_fzH] at hl
  split at hl
  · cases hl
  · rename_i hn
    simp only [Option.map_eq_some_iff] at hl
    obtain ⟨o', h1, rfl⟩ := hl
    refine ⟨o', h1, rfl, ?_⟩
    intro hr
    unfold rowAt at hn
    rw [h1] at hn
    cases o' with
    | cells cs => cases hr
    | tc T cs => cases hr
    | rowc τ xs c => cases hr
    | mp κ υ es => cases hr
    | row τ xs => simpa using hn

theorem owns_fz {p : Place} {o : XObj} : owns p (o.fz h q) ↔ owns p o := by cases o <;> rfl

theorem fzSH_lk : ∀ {l : List (Nat × XObj)}, fzSH h q l → ∀ id o, lk l id = some o → o.fzS h q := by
  intro l
  induction l with
  | nil => intro _ id o h; cases h
  | cons p l ih =>
    intro hs id o hl
    simp only [lk] at hl
    split at hl
    · injection hl with hl; subst hl; exact hs.1
    · exact ih hs.2 id o hl

theorem fz_RH (H : RH ρ I w (lk h)) (hs : fzSH h q h) : RH ρ (fzI ρ I h q) w (lk (fzH h q)) := by
  refine ⟨H.glob.mono (fun _ h => .inl h) (fun _ _ => rfl), ?_, ?_, ?_, ?_⟩
  · intro id o hl
    obtain ⟨o', h1, rfl, h2⟩ := fzH_some hl
    have hok := H.ok id o' h1
    cases o' with
    | cells cs =>
      obtain ⟨vs, T, fr, g1, g2, g3⟩ := hok
      exact ⟨vs, T, fr, g1, g2.fz H (fzSH_lk hs id _ h1), g3⟩
    | tc T cs =>
      obtain ⟨vs, fr, g1, g2, g3⟩ := hok
      exact ⟨vs, fr, g1, g2.fz H (fzSH_lk hs id _ h1), g3⟩
    | rowc τ xs c => exact ObjOk.mono (N := fun _ => false) (fun b hb => .inl hb) (fun _ _ => rfl) (fun _ _ => rfl) hok rfl (fun _ => rfl)
    | mp κ υ es => exact ObjOk.mono (N := fun _ => false) (fun b hb => .inl hb) (fun _ _ => rfl) (fun _ _ => rfl) hok rfl (fun _ => rfl)
    | row τ xs => exact ObjOk.mono (N := fun _ => false) (fun b hb => .inl hb) (fun _ _ => rfl) (fun _ _ => rfl) hok rfl (fun _ => rfl)
  · intro id o id' p hl hl' hne hw hw'
    obtain ⟨o', h1, rfl, _⟩ := fzH_some hl
    obtain ⟨p', h2, rfl, _⟩ := fzH_some hl'
    exact H.apart id o' id' p' h1 h2 hne (owns_fz.1 hw) (owns_fz.1 hw')
  · intro id o hl hw
    obtain ⟨o', h1, rfl, h2⟩ := fzH_some hl
    rintro (hI | ⟨id', p, hq, h3, h4, h5, h6⟩)
    · exact H.own id o' h1 (owns_fz.1 hw) hI
    · have hne : id' ≠ id := by
        intro e; subst e
        rw [h1] at h3; injection h3 with h3; subst h3
        rw [h2 h4] at hq; cases hq
      exact H.apart id' p id o' h3 h1 hne h5 (owns_fz.1 hw) h6
  · rintro b (hI | ⟨id', p, _, h3, _, h5, rfl⟩)
    · exact H.lt b hI
    · exact H.ownLt ⟨id', p, h3, h5, rfl⟩

theorem fz_Loc {ρ0 : Nat → Place} {I0 : Nat → Prop} {w0 : World} {h0 : Hf} (L : Loc ρ0 I0 w0 h0 ρ I w (lk h) lateN) : Loc ρ0 I0 w0 h0 ρ (fzI ρ I h q) w (lk (fzH h q)) lateN := by
  refine ⟨L.keep, L.size, fun b hb => .inl (L.up b hb), ?_, ?_, L.place, L.rest⟩
  · rintro b (hI | ⟨id', p, _, h3, _, h5, rfl⟩)
    · exact L.down b hI
    · exact .inr (L.own _ ⟨id', p, h3, h5, rfl⟩)
  · rintro b ⟨id, o, hl, hw, rfl⟩
    obtain ⟨o', h1, rfl, _⟩ := fzH_some hl
    exact L.own _ ⟨id, o', h1, owns_fz.1 hw, rfl⟩

/-- within a function. -/
noncomputable def St.fz (s : St) (q : Nat → Bool) : St := ⟨s.t.map fun p => (p.1, p.2.fz s.h q), fzH s.h q⟩
def fzST (h : List (Nat × XObj)) (q : Nat → Bool) : List (Nat × V) → Prop
  | [] => True
  | p :: l => p.2.fzS h q ∧ fzST h q l

theorem Wk.fz {s : St} (q : Nat → Bool) (hs : fzSH s.h q s.h) (ht : fzST s.h q s.t) : Wk s (s.fz q) := by
  refine ⟨fun E n ρ I a w R => ⟨ρ, _, fz_RH R.heap hs, R.size, R.nodef, ?_, fz_Loc R.loc⟩⟩
  intro t
  have hT : ∀ {l : List (Nat × V)}, fzST s.h q l → ∀ v, lk l t = some v → v.fzS s.h q := by
    intro l
    induction l with
    | nil => intro _ v h; cases h
    | cons p l ih =>
      intro h v hl
      simp only [lk] at hl
      split at hl
      · injection hl with hl; subst hl; exact h.1
      · exact ih h.2 v hl
  have := R.tmps t
  unfold St.get St.fz at *
  simp only
  rw [lk_map (f := fun v : V => v.fz s.h q)]
  cases hl : lk s.t t with
  | none => trivial
  | some v =>
    rw [hl] at this
    exact this.fz R.heap (hT ht v hl)
end
end GoX
/- A function: its contract from its code. -/
set_option autoImplicit false
namespace GoX
open Go

inductive XRes where
  | t (n : Nat)
  | cell (a size : Nat) (agg : Bool)

def compRes (S : Setting) (rs : Array ResultVar) : Option (List XRes) :=
  rs.toList.mapM fun
    | .tmp t => some (.t t)
    | .cell a t => do pure (.cell a (← S.size t) (← S.isAgg t))

def resV (s : St) : XRes → Option V
  | .t n => if argOk (s.get n) then some (s.get n) else none
  | .cell a size agg => match s.get a with
    | .pt id off => match lk s.h id with
      | some (.cells cs) => match ((dropF cs off).bind (takeF · size)).bind (ofCells agg) with
        | some v => if argOk v then some v else none
        | none => none
      | _ => none
    | _ => none

def resVs (s : St) : List XRes → Option (List V)
  | [] => some []
  | r :: rs => match resV s r, resVs s rs with
    | some v, some vs => some (v :: vs)
    | _, _ => none

def finV (s : St) (rs : List XRes) : Option V :=
  match resVs s rs with
  | some [v] => some v
  | some vs => some (.tup vs)
  | none => none

/-- the numbers at the end: what was given keeps its own, what is new counts from 32. -/
def canon : List (Nat × Nat) → Nat → List (Nat × Nat)
  | [], _ => []
  | (id, _) :: l, c => if id < 32 then (id, id) :: canon l c else (id, 32 + c) :: canon l (c + 1)

def leHs (l : List (Nat × XObj)) : List (Nat × XObj) → Prop
  | [] => True
  | p :: r => (match lk l p.1 with
    | some o => o.le p.2
    | none => False) ∧ leHs l r

theorem leHs_some {l : List (Nat × XObj)} : ∀ {r : List (Nat × XObj)}, leHs l r → ∀ j o, lk r j = some o → ∃ o', lk l j = some o' ∧ o'.le o := by
  intro r
  induction r with
  | nil => intro _ j o h; cases h
  | cons p r ih =>
    intro h j o hl
    simp only [lk] at hl
    split at hl
    · rename_i e
      subst e; injection hl with hl; subst hl
      have h1 := h.1
      split at h1
      · rename_i o' ho'; exact ⟨o', ho', h1⟩
      · exact h1.elim
    · exact ih h.2 j o hl

def Fin1 (np : Nat) (q : Nat → Bool) (h : List (Nat × XObj)) (v v' : V) (h' : List (Nat × XObj)) : Prop :=
  fzSH h q h ∧ v.fzS h q ∧ (fun hf vf => (fun r => rnOk r = true ∧ (vf.rn r).le v' ∧ leHs (passed hf r) h') (canon (reach hf 300 (List.range np ++ vf.ids) []) 0)) (fzH h q) (v.fz h q)

def fnQ (rs : List XRes) (np : Nat) (q : Nat → Bool) (r : XRet) (h' : List (Nat × XObj)) : XE → St → Prop
  | .norm, s | .ret, s => match r with
    | .val v' => match finV s rs with
      | some v => Fin1 np q s.h v v' h'
      | none => False
    | .pan _ => False
  | .pan v, s => match r with
    | .pan v' => Fin1 np q s.h v v' h'
    | .val _ => False
  | .exit _, _ => False

section
variable {S : Setting} {E : Ent} {n : Nat} {ρ : Nat → Place} {I : Nat → Prop} {s : St} {a : Go.Act} {w : World}

theorem res_ok (R : RS E n ρ I s a w) {r : ResultVar} {x : XRes} (hc : (match r with
    | .tmp t => some (.t t)
    | .cell a t => do pure (.cell a (← S.size t) (← S.isAgg t)) : Option XRes) = some x) {v : V} (hv : resV s x = some v) :
    ∃ y, (match r with
      | .tmp t => pure (a.tmps.getD t undef)
      | .cell c t => do loadVar t (← asAddr (a.tmps.getD c undef)) : Sem Value).run S.P w = .ok y w ∧ DenV1 ρ I w v y := by
  cases r with
  | tmp t =>
    simp only [Option.some.injEq] at hc
    subst hc
    simp only [resV] at hv
    split at hv
    · rename_i ha
      injection hv with hv; subst hv
      exact ⟨_, rfl, (R.tmps t).one ha⟩
    · cases hv
  | cell c t =>
    simp only [bind, Option.bind_eq_some_iff, pure, Option.some.injEq] at hc
    obtain ⟨sz, hsz, b, hb, rfl⟩ := hc
    obtain ⟨ti, hi, rfl⟩ := size_info hsz
    obtain ⟨d, hd, rfl⟩ := isAgg_desc hb
    simp only [resV] at hv
    split at hv
    · rename_i id off hp
      split at hv
      · rename_i cs hlk
        split at hv
        · rename_i v' hv'
          split at hv
          · rename_i hao
            injection hv with hv; subst hv
            rw [Option.bind_eq_some_iff] at hv'
            obtain ⟨ds, hds, hu⟩ := hv'
            have h1 := R.tmps c
            rw [hp] at h1
            obtain ⟨vs, T, fr, g1, g2, g3⟩ := R.heap.ok id _ hlk
            obtain ⟨h2, h3, h4⟩ := part_ok hds g2 (cellsAt_whole g1)
            rw [Nat.zero_add] at h4
            obtain ⟨y, hr, hy⟩ := run_loadVar (P := S.P) hd hi hu h2 h3 h4
            refine ⟨y, ?_, hy.one hao⟩
            simp only [h1.pt]
            rw [Sem.run_bind' (show (asAddr (.pointer (some ⟨(ρ id).blk, off, none⟩))).run S.P w = .ok _ w from rfl)]
            exact hr
          · cases hv
        · cases hv
      · cases hv
    · cases hv

theorem ress_ok (R : RS E n ρ I s a w) : ∀ {rs : List ResultVar} {xs : List XRes} {vs : List V}, rs.mapM (fun
    | .tmp t => some (.t t)
    | .cell a t => do pure (.cell a (← S.size t) (← S.isAgg t)) : ResultVar → Option XRes) = some xs → resVs s xs = some vs →
    ∃ ys : List Value, (rs.mapM fun
      | .tmp t => pure (a.tmps.getD t undef)
      | .cell c t => do loadVar t (← asAddr (a.tmps.getD c undef)) : Sem (List Value)).run S.P w = .ok ys w ∧ DenT ρ I w vs ys := by
  intro rs
  induction rs with
  | nil => intro xs vs h1 h2; simp at h1; subst h1; simp [resVs] at h2; subst h2; exact ⟨[], rfl, .nil⟩
  | cons r rs ih =>
    intro xs vs h1 h2
    rw [List.mapM_cons] at h1
    simp only [bind, Option.bind_eq_some_iff, pure, Option.some.injEq] at h1
    obtain ⟨x, hx, xs', hxs, rfl⟩ := h1
    simp only [resVs] at h2
    split at h2
    · rename_i v vs' hv hvs
      injection h2 with h2; subst h2
      obtain ⟨y, hy, hd⟩ := res_ok R (S := S) hx hv
      obtain ⟨ys, hys, hds⟩ := ih hxs hvs
      refine ⟨y :: ys, ?_, .cons hd hds⟩
      rw [List.mapM_cons, Sem.run_bind' hy, Sem.run_bind' hys]; rfl
    · cases h2

theorem DenV1.toV {v : V} {x : Value} (h : DenV1 ρ I w v x) : DenV ρ I w v x := by
  cases v <;> first
    | exact h
    | cases h

theorem fin_ok (R : RS E n ρ I s a w) {fn : Func} {rs : List XRes} (hc : compRes S fn.results = some rs) {v : V} (hv : finV s rs = some v) :
    ∃ x, (results fn a.tmps).run S.P w = .ok x w ∧ DenV ρ I w v x := by
  unfold compRes at hc
  unfold finV at hv
  have main : ∀ vs, resVs s rs = some vs → ∃ ys : List Value, (results fn a.tmps).run S.P w = .ok (if h : ys.length = 1 then ys[0] else .tuple ys.toArray) w ∧ DenT ρ I w vs ys := by
    intro vs hvs
    obtain ⟨ys, hr, hd⟩ := ress_ok R hc hvs
    refine ⟨ys, ?_, hd⟩
    unfold results
    rw [Array.mapM_eq_mapM_toList, map_eq_pure_bind]
    refine Eq.trans (Sem.run_bind' (a := ys.toArray) (w' := w) (Eq.trans (Sem.run_bind' (a := ys) (w' := w) hr) rfl)) ?_
    by_cases hl : ys.length = 1
    · obtain ⟨y, rfl⟩ := List.length_eq_one_iff.1 hl
      rfl
    · rw [dif_neg hl]
      simp only [List.size_toArray]
      rw [dif_neg hl]; rfl
  split at hv
  · rename_i v' hvs
    injection hv with hv; subst hv
    obtain ⟨ys, hr, hd⟩ := main _ hvs
    cases hd with
    | cons h1 h2 =>
      cases h2
      exact ⟨_, hr, h1.toV⟩
  · rename_i vs hne hvs
    injection hv with hv; subst hv
    obtain ⟨ys, hr, hd⟩ := main _ hvs
    have hlen : ys.length = vs.length := by
      clear hr hne hvs main
      induction hd with
      | nil => rfl
      | cons _ _ ih => simp [ih]
    have hl : ys.length ≠ 1 := by
      intro h
      rw [hlen] at h
      obtain ⟨v, rfl⟩ := List.length_eq_one_iff.1 h
      exact hne v rfl
    rw [dif_neg hl] at hr
    exact ⟨_, hr, ys, rfl, hd⟩
  · cases hv

theorem passed_some {h : List (Nat × XObj)} {r : List (Nat × Nat)} (hr : rnOk r = true) {j : Nat} {o : XObj} (hl : lk (passed h r) j = some o) : ∃ id o', lk r id = some j ∧ lk h id = some o' ∧ o = o'.rn r := by
  have hm := lk_mem hl
  unfold passed at hm
  rw [List.mem_filterMap] at hm
  obtain ⟨p, hp, he⟩ := hm
  simp only [Option.map_eq_some_iff] at he
  obtain ⟨o', h1, e⟩ := he
  injection e with e1 e2
  subst e1; subst e2
  simp only [rnOk, Bool.and_eq_true] at hr
  exact ⟨p.1, o', nodup_lk hr.1.1 hp, h1, rfl⟩

/-- what is told of the end holds of it. -/
theorem fin1_ok (R : RS E n ρ I s a w) {np : Nat} {q : Nat → Bool} {v v' : V} {h' : List (Nat × XObj)} (hf : Fin1 np q s.h v v' h') :
    ∃ ρ' I', RH ρ' I' w (lk h') ∧ Loc E.ρ E.I E.w E.h ρ' I' w (lk h') lateN ∧ (∀ x, DenV ρ I w v x → DenV ρ' I' w v' x) ∧ (∀ x, DenV1 ρ I w v x → DenV1 ρ' I' w v' x) := by
  obtain ⟨h1, h2, h3, h4, h5⟩ := hf
  have H1 := fz_RH R.heap h1
  have L1 := fz_Loc (q := q) R.loc
  obtain ⟨H2, hown⟩ := rn_RH H1 h3 (fun j o hl => by
    obtain ⟨o1, e1, e2⟩ := leHs_some h5 j o hl
    obtain ⟨id, o', e3, e4, rfl⟩ := passed_some h3 e1
    exact ⟨id, o', e3, e4, e2⟩)
  refine ⟨_, _, H2, rn_Loc h3 L1 hown, ?_, ?_⟩
  · intro x hx; exact ((hx.fz R.heap h2).rn (rhoIn_eq' h3)).le h4
  · intro x hx; exact ((hx.fz R.heap h2).rn (rhoIn_eq' h3)).le h4
end

def args0 : List V → Nat → List (Nat × V)
  | [], _ => []
  | v :: vs, i => (i, v) :: args0 vs (i + 1)

theorem callFunc_enter {P : Program} {f : FuncId} {fn : Func} {code : Code} (hf : P.funcs[f]? = some fn) (hb : fn.body = some code) (hn : (fn.name == "runtime.NumGoroutine") = false) (xs : Array Value) (w : World) :
    (callFunc f xs).run P w = .ok (.enter f xs) w := by
  unfold callFunc
  rw [Sem.run_bind' (show (program).run P w = .ok P w from rfl)]
  rw [hf]
  simp only [hn, hb, Bool.false_eq_true, if_false, Option.isNone_some]
  rfl

theorem args0_get {ρ : Nat → Place} {I : Nat → Prop} {w : World} : ∀ {vs : List V} {xs : List Value} (i t : Nat), DenT ρ I w vs xs →
    DenV ρ I w ((lk (args0 vs i) (i + t)).getD .junk) (xs.getD t undef) := by
  intro vs xs i t h
  induction h generalizing i t with
  | nil => trivial
  | cons h1 _ ih =>
    simp only [args0, lk]
    cases t with
    | zero => simp; exact h1.toV
    | succ t =>
      rw [if_neg (by omega)]
      have := ih (i + 1) t
      rw [show i + (t + 1) = i + 1 + t from by omega]
      simpa using this

/-- A function's contract. -/
theorem Sim_of {S : Setting} {f : FuncId} {fn : Func} {code : Code} {xc : XC} {rs : List XRes} {args : List V} {h : List (Nat × XObj)} {wr : List Nat} {r : XRet} {h' : List (Nat × XObj)}
    (hf : S.P.funcs[f]? = some fn) (hb : fn.body = some code) (hn : (fn.name == "runtime.NumGoroutine") = false) (hc : comp S code = some xc) (hres : compRes S fn.results = some rs) (hlen : args.length ≤ fn.ntmps)
    (np : Nat) (q : Nat → Bool) (hv : VK S fn.ntmps (fnQ rs np q r h') [.c xc] ⟨args0 args 0, h⟩)
    (same : ∀ id, id < 32 → wr.contains id = false → lk h' id = lk h id) : Sim S.P f args h wr r h' := by
  refine ⟨?_, same⟩
  intro ρ I w xs H hd
  refine .inl ⟨callFunc_enter hf hb hn _ _, calls_of_wp hf hb ?_⟩
  have hxl : xs.length = args.length := by
    clear hv
    induction hd with
    | nil => rfl
    | cons _ _ ih => simp at hlen; simp [ih (by omega)]
  obtain ⟨a, ha⟩ : ∃ a : Go.Act, a = { tmps := xs.toArray ++ Array.replicate (fn.ntmps - xs.toArray.size) undef, defers := [] } := ⟨_, rfl⟩
  have R : RS ⟨ρ, I, w, lk h, []⟩ fn.ntmps ρ I ⟨args0 args 0, h⟩ a w := by
    refine ⟨H, ?_, by rw [ha], ?_, ⟨fun _ _ _ => rfl, Nat.le_refl _, fun _ h => h, fun _ h => .inl h, fun _ h => .inl h, fun _ _ => rfl, rfl, rfl, rfl⟩⟩
    · rw [ha]; simp; omega
    · intro t
      have := args0_get 0 t hd
      rw [Nat.zero_add] at this
      unfold St.get
      simp only
      rw [ha]
      simp only
      have e : (xs.toArray ++ Array.replicate (fn.ntmps - xs.toArray.size) undef).getD t undef = xs.getD t undef := by
        rw [Array.getD_eq_getD_getElem?, Array.getElem?_append]
        simp only [List.size_toArray, List.getElem?_toArray]
        by_cases ht : t < xs.length
        · rw [if_pos ht]; rfl
        · rw [if_neg ht, Array.getElem?_replicate, List.getD_eq_getElem?_getD, List.getElem?_eq_none (by omega)]
          split <;> rfl
      rw [e]
      exact this
  have hw := hv.go ⟨ρ, I, w, lk h, []⟩ ρ I a w R
  rw [wpK_c] at hw
  rw [← ha]
  refine wp_mono (hw code hc) ?_
  have ret : ∀ {ρ' I' s' a' w'}, RS ⟨ρ, I, w, lk h, []⟩ fn.ntmps ρ' I' s' a' w' → fnQ rs np q r h' .ret s' → a'.defers = [] ∧ ∃ v, (results fn a'.tmps).run S.P w' = .ok v w' ∧
      ∃ ρ'' I'', RH ρ'' I'' w' (lk h') ∧ Loc ρ I w (lk h) ρ'' I'' w' (lk h') lateN ∧ DenE ρ'' I'' w' r (.returned v) := by
    intro ρ' I' s' a' w' R' hq
    cases r with
    | pan v => exact hq.elim
    | val v' =>
      simp only [fnQ] at hq
      split at hq
      · rename_i v hfv
        obtain ⟨x, hx, hdx⟩ := fin_ok R' hres hfv
        obtain ⟨ρ2, I2, H2, L2, h3, _⟩ := fin1_ok R' hq
        exact ⟨R'.nodef, x, hx, ρ2, I2, H2, L2, h3 x hdx⟩
      · exact hq.elim
  intro e a' w' he
  cases e with
  | normal =>
    simp only [Qk, wpK, toQ] at he
    obtain ⟨ρ', I', s', R', hq⟩ := he
    exact ret R' hq
  | ret =>
    simp only [Qk, unwQ, toQ] at he
    obtain ⟨ρ', I', s', R', hq⟩ := he
    exact ret R' hq
  | exit id =>
    simp only [Qk, unwQ, toQ] at he
    obtain ⟨ρ', I', s', R', hq⟩ := he
    exact hq.elim
  | goto l =>
    simp only [Qk, unwQ, toQ] at he
    obtain ⟨_, _, _, h⟩ := he
    exact h.elim
  | panic ch =>
    simp only [Qk, unwQ, toQ] at he
    obtain ⟨ρ', I', s', R', v, x, rfl, hdx, hq⟩ := he
    cases r with
    | val v' => exact hq.elim
    | pan v' =>
      obtain ⟨ρ2, I2, H2, L2, _, h4⟩ := fin1_ok R' hq
      exact ⟨R'.nodef, ρ2, I2, H2, L2, x, rfl, h4 x hdx⟩
  | outgrown =>
    simp only [Qk, unwQ, toQ] at he
    obtain ⟨_, _, _, h⟩ := he
    exact h.elim

/-- by the abstract code. -/
theorem Sim_of' {S : Setting} (hS : S.Ok) (hmix : S.P.follows .mixedOrders = true) {f : FuncId} {fn : Func} {xc : XC} {rs : List XRes} {n : Nat} {args : List V} {h : List (Nat × XObj)} {wr : List Nat} {r : XRet} {h' : List (Nat × XObj)}
    (hf : S.P.funcs[f]? = some fn) (hn : (fn.name == "runtime.NumGoroutine") = false) (hc : fn.body.bind (comp S) = some xc) (hres : compRes S fn.results = some rs) (hnt : fn.ntmps = n) (hlen : args.length ≤ n)
    (np : Nat) (q : Nat → Bool) (m : Nat) (hv : XK S n (fnQ rs np q r h') m [.c xc] ⟨args0 args 0, h⟩) (same : ∀ id, id < 32 → wr.contains id = false → lk h' id = lk h id) : Sim S.P f args h wr r h' := by
  rw [Option.bind_eq_some_iff] at hc
  obtain ⟨code, hb, hc⟩ := hc
  subst hnt
  exact Sim_of hf hb hn hc hres hlen np q (XK_sound hS hmix m _ _ hv) same
end GoX
/- What is known of what a function is given: its numbers lie in their types' ranges, and so on. -/
set_option autoImplicit false
namespace GoX
open Go

/-- such a value is somewhere. -/
def Fact (c : V) : Prop := ∃ (ρ : Nat → Place) (I : Nat → Prop) (w : World) (vs : List Value), DenL ρ I w [c] vs
def FactL (cs : List V) : Prop := ∃ (ρ : Nat → Place) (I : Nat → Prop) (w : World) (vs : List Value), DenL ρ I w cs vs
/-- what is known of an argument. -/
def FactA : V → Prop
  | .agg cs => FactL cs
  | .junk => True
  | .tup _ => True
  | v => Fact v
/-- what is known of what lies under a number. -/
def FactO : XObj → Prop
  | .cells cs | .tc _ cs => FactL cs
  | .row τ xs | .rowc τ xs _ => ∀ x ∈ xs, FactL (enc τ x)
  | .mp _ _ _ => True

theorem FactL.head {c : V} {cs : List V} (h : FactL (c :: cs)) : Fact c := by
  obtain ⟨ρ, I, w, vs, h⟩ := h
  obtain ⟨us, ws, _, _, h1, _⟩ := h.cons_one
  exact ⟨ρ, I, w, us, h1⟩
theorem FactL.tail {c : V} {cs : List V} (h : FactL (c :: cs)) : FactL cs := by
  obtain ⟨ρ, I, w, vs, h⟩ := h
  obtain ⟨us, ws, _, _, _, h1⟩ := h.cons_one
  exact ⟨ρ, I, w, ws, h1⟩
theorem FactL.left {a b : List V} (h : FactL (a ++ b)) : FactL a := by
  obtain ⟨ρ, I, w, vs, h⟩ := h
  obtain ⟨us, ws, _, _, h1, _⟩ := h.split
  exact ⟨ρ, I, w, us, h1⟩
theorem FactL.right {a b : List V} (h : FactL (a ++ b)) : FactL b := by
  obtain ⟨ρ, I, w, vs, h⟩ := h
  obtain ⟨us, ws, _, _, _, h1⟩ := h.split
  exact ⟨ρ, I, w, ws, h1⟩
theorem FactL.flat {τ : Ty} {xs : List τ.den} (h : FactL (xs.flatMap (enc τ))) : ∀ x ∈ xs, FactL (enc τ x) := by
  induction xs with
  | nil => intro x hx; cases hx
  | cons y xs ih =>
    rw [List.flatMap_cons] at h
    intro x hx
    rcases List.mem_cons.1 hx with rfl | hx
    · exact h.left
    · exact ih h.right x hx
theorem Fact.i {k : IntKind} {x : Int} (h : Fact (.i k x)) : inR k x := by
  obtain ⟨ρ, I, w, vs, h⟩ := h
  cases h with | i _ _ hr _ => exact hr
theorem Fact.s {x : Bs} (h : Fact (.s x)) : okLen x.length ∧ ∀ b ∈ x, 0 ≤ b ∧ b ≤ 255 := by
  obtain ⟨ρ, I, w, vs, h⟩ := h
  cases h with
  | s x hl _ =>
    refine ⟨by rw [show (toInts x).length = x.size from by simp only [toInts, List.length_map, Array.length_toList]; rfl]; exact hl, fun b hb => ?_⟩
    unfold toInts at hb
    rw [List.mem_map] at hb
    obtain ⟨u, _, rfl⟩ := hb
    have := u.toNat_lt
    omega
theorem Fact.sl {τ : Ty} {xs : List τ.den} (h : Fact (.sl τ xs)) : okLen xs.length ∧ ∀ x ∈ xs, FactL (enc τ x) := by
  obtain ⟨ρ, I, w, vs, h⟩ := h
  cases h with
  | sl0 _ _ _ _ => exact ⟨Nat.zero_le _, fun x hx => by cases hx⟩
  | sl _ xs blk off cap g _ _ ho hg _ _ =>
    refine ⟨ho, fun x hx => ?_⟩
    obtain ⟨n, hn, rfl⟩ := List.mem_iff_getElem.1 hx
    exact ⟨ρ, I, w, _, hg n hn⟩
theorem Fact.ow {id : Nat} {τ : Ty} {off len : Int} (h : Fact (.ow id τ off len)) : 0 ≤ off ∧ 0 ≤ len ∧ okLen len.toNat := by
  obtain ⟨ρ, I, w, vs, h⟩ := h
  cases h with | ow _ _ _ _ _ h1 h2 _ h5 _ _ => exact ⟨h1, h2, h5⟩
theorem Fact.ar {τ : Ty} {n : Nat} {xs : List τ.den} (h : Fact (.ar τ n xs)) : xs.length = n ∧ ∀ x ∈ xs, FactL (enc τ x) := by
  obtain ⟨ρ, I, w, vs, h⟩ := h
  cases h with
  | ar _ _ ws h1 _ => exact ⟨rfl, FactL.flat ⟨ρ, I, w, _, h1⟩⟩
theorem Fact.pi {cs : List V} (h : Fact (.pi cs)) : FactL cs := by
  obtain ⟨ρ, I, w, vs, h⟩ := h
  cases h with | pi _ ws _ _ _ h1 _ _ => exact ⟨ρ, I, w, ws, h1⟩
theorem Fact.ifa {t : Nat} {cs : List V} (h : Fact (.ifa t cs)) : FactL cs := by
  obtain ⟨ρ, I, w, vs, h⟩ := h
  cases h with | ifa _ _ ws h1 _ => exact ⟨ρ, I, w, ws, h1⟩

section
variable {ρ : Nat → Place} {I : Nat → Prop} {w : World}
theorem DenV1.fact {v : V} {x : Value} (h : DenV1 ρ I w v x) : FactA v := by
  cases v <;> first
    | trivial
    | (obtain ⟨vs, _, h⟩ := h; exact ⟨ρ, I, w, vs, h⟩)
    | exact ⟨ρ, I, w, _, h⟩
theorem DenT.fact {vs : List V} {xs : List Value} (h : DenT ρ I w vs xs) : ∀ v ∈ vs, FactA v := by
  induction h with
  | nil => intro v hv; cases hv
  | cons h1 _ ih =>
    intro v hv
    rcases List.mem_cons.1 hv with rfl | hv
    · exact h1.fact
    · exact ih v hv
theorem DenV.fact {v : V} {x : Value} (h : DenV ρ I w v x) : FactA v := by
  cases v <;> first
    | trivial
    | exact DenV1.fact h
theorem ObjOk.fact {p : Place} {o : XObj} (h : ObjOk ρ I w p o) : FactO o := by
  have row : ∀ {τ : Ty} {xs : List τ.den}, RowOk ρ I w p τ xs → ∀ x ∈ xs, FactL (enc τ x) := by
    intro τ xs h x hx
    rcases h with ⟨_, rfl⟩ | ⟨_, arr, T, fr, g, _, _, _, _, hg, _⟩
    · cases hx
    · obtain ⟨n, hn, rfl⟩ := List.mem_iff_getElem.1 hx
      exact ⟨ρ, I, w, _, hg n hn⟩
  cases o with
  | cells cs => obtain ⟨vs, T, fr, _, h, _⟩ := h; exact ⟨ρ, I, w, vs, h⟩
  | tc T cs => obtain ⟨vs, fr, _, h, _⟩ := h; exact ⟨ρ, I, w, vs, h⟩
  | row τ xs => exact row h
  | rowc τ xs c => exact row h.2
  | mp κ υ es => trivial
end

/-- a call may take for true what is known of what it is given. -/
theorem Sim.facts {P : Program} {f : FuncId} {args : List V} {h : List (Nat × XObj)} {wr : List Nat} {r : XRet} {h' : List (Nat × XObj)}
    (hs : (∀ v ∈ args, FactA v) → (∀ id o, lk h id = some o → FactO o) → Sim P f args h wr r h')
    (same : ∀ id, id < 32 → wr.contains id = false → lk h' id = lk h id) : Sim P f args h wr r h' := by
  refine ⟨fun ρ I w xs H hd => ?_, same⟩
  exact (hs hd.fact (fun id o ho => (H.ok id o ho).fact)).go ρ I w xs H hd

/-- so may code. -/
theorem VK.facts {S : Setting} {n : Nat} {Q : XE → St → Prop} {k : List KI} {s : St} (hs : (∀ t, FactA (s.get t)) → (∀ id o, lk s.h id = some o → FactO o) → VK S n Q k s) : VK S n Q k s := by
  refine ⟨fun E ρ I a w R => ?_⟩
  exact (hs (fun t => (R.tmps t).fact) (fun id o ho => (R.heap.ok id o ho).fact)).go E ρ I a w R
end GoX
/- The sealed operations, opened; splitting of cases. -/
set_option autoImplicit false
namespace GoX
open Go

theorem Ops.all (o : Ops) : (∀ {α : Type} (xs : List α), o.ln xs = (xs.length : Int)) ∧ (∀ {α : Type} (xs : List α) (i : Int) (d : α), o.gt xs i d = xs.getD i.toNat d) ∧
    (∀ {α : Type} (i : Int) (xs : List α), o.dr i xs = xs.drop i.toNat) ∧ (∀ {α : Type} (i : Int) (xs : List α), o.tk i xs = xs.take i.toNat) ∧
    (∀ {α : Type} (xs ys : List α), o.ap xs ys = xs ++ ys) ∧ (∀ {α : Type} (xs : List α) (i : Int) (x : α), o.stl xs i x = xs.set i.toNat x) ∧
    (∀ (a b : Int), o.eqI a b = decide (a = b)) ∧ (∀ (a b : Int), o.ltI a b = decide (a < b)) ∧ (∀ (a b : Int), o.leI a b = decide (a ≤ b)) ∧ (∀ (a b : Bs), o.eqS a b = decide (a = b)) ∧
    (∀ (a b : Int), o.mn2 a b = if b < a then b else a) ∧ (∀ (a b : Int), o.mx2 a b = if a < b then b else a) ∧ (∀ (a b : Int), o.quI a b = a.tdiv b) ∧ (∀ (a b : Int), o.reI a b = a.tmod b) ∧
    (∀ (k : IntKind) (x : Int), o.wr k x = k.wrap x) ∧ (∀ (op : BinOp) (k : IntKind) (x y : Int), o.bitI op k x y = bitsI op k x y) ∧ (∀ (left : Bool) (k : IntKind) (x y : Int), o.shI left k x y = shB left k x y) ∧
    o.maxI64 = 9223372036854775807 ∧ (∀ (a b : Int), o.mlI a b = a * b) ∧ (∀ (a b : Int), o.sbI a b = a - b) ∧ (∀ (a b : Int), o.adI a b = a + b) ∧
    (∀ {α : Type} (n : Int) (x : α), o.rpl n x = List.replicate n.toNat x) ∧
    (∀ {κ υ : Ty} (es : List (κ.den × υ.den)) (k : κ.den), o.mpB es k = (mapGet es k).isSome) ∧ (∀ {κ υ : Ty} (es : List (κ.den × υ.den)) (k : κ.den) (d : υ.den), o.mpG es k d = (mapGet es k).getD d) ∧
    (∀ {κ υ : Ty} (es : List (κ.den × υ.den)) (k : κ.den) (x : υ.den), o.mpS es k x = mapSet es k x) :=
  ⟨o.ln_d, o.gt_d, o.dr_d, o.tk_d, o.ap_d, o.stl_d, o.eqI_d, o.ltI_d, o.leI_d, o.eqS_d, o.mn2_d, o.mx2_d, o.quI_d, o.reI_d, o.wr_d, o.bitI_d, o.shI_d, o.maxI64_d, o.mlI_d, o.sbI_d, o.adI_d, o.rpl_d, o.mpB_d, o.mpG_d, o.mpS_d⟩

/-- the same, by name. -/
theorem defs : (∀ {α : Type} (xs : List α), ln xs = (xs.length : Int)) ∧ (∀ {α : Type} (xs : List α) (i : Int) (d : α), gt xs i d = xs.getD i.toNat d) ∧
    (∀ {α : Type} (i : Int) (xs : List α), dr i xs = xs.drop i.toNat) ∧ (∀ {α : Type} (i : Int) (xs : List α), tk i xs = xs.take i.toNat) ∧
    (∀ {α : Type} (xs ys : List α), ap xs ys = xs ++ ys) ∧ (∀ {α : Type} (xs : List α) (i : Int) (x : α), stl xs i x = xs.set i.toNat x) ∧
    (∀ (a b : Int), eqI a b = decide (a = b)) ∧ (∀ (a b : Int), ltI a b = decide (a < b)) ∧ (∀ (a b : Int), leI a b = decide (a ≤ b)) ∧ (∀ (a b : Bs), eqS a b = decide (a = b)) ∧
    (∀ (a b : Int), mn2 a b = if b < a then b else a) ∧ (∀ (a b : Int), mx2 a b = if a < b then b else a) ∧ (∀ (a b : Int), quI a b = a.tdiv b) ∧ (∀ (a b : Int), reI a b = a.tmod b) ∧
    (∀ (k : IntKind) (x : Int), wr k x = k.wrap x) ∧ (∀ (op : BinOp) (k : IntKind) (x y : Int), bitI op k x y = bitsI op k x y) ∧ (∀ (left : Bool) (k : IntKind) (x y : Int), shI left k x y = shB left k x y) ∧
    maxI64 = 9223372036854775807 ∧ (∀ (a b : Int), mlI a b = a * b) ∧ (∀ (a b : Int), sbI a b = a - b) ∧ (∀ (a b : Int), adI a b = a + b) ∧
    (∀ {α : Type} (n : Int) (x : α), rpl n x = List.replicate n.toNat x) ∧
    (∀ {κ υ : Ty} (es : List (κ.den × υ.den)) (k : κ.den), mpB es k = (mapGet es k).isSome) ∧ (∀ {κ υ : Ty} (es : List (κ.den × υ.den)) (k : κ.den) (d : υ.den), mpG es k d = (mapGet es k).getD d) ∧
    (∀ {κ υ : Ty} (es : List (κ.den × υ.den)) (k : κ.den) (x : υ.den), mpS es k x = mapSet es k x) :=
  ⟨ln_def, gt_def, dr_def, tk_def, ap_def, stl_def, eqI_def, ltI_def, leI_def, eqS_def, mn2_def, mx2_def, quI_def, reI_def, wr_def, bitI_def, shI_def, maxI64_def, mlI_def, sbI_def, adI_def, rpl_def, mpB_def, mpG_def, mpS_def⟩

theorem xif {t : Bool} {p q : Unit → Prop} (h1 : t = true → p ()) (h2 : t = false → q ()) : XIf t p q := by
  cases t with
  | true => exact h1 rfl
  | false => exact h2 rfl
theorem xif_t {t : Bool} {p q : Unit → Prop} (h : t = true) (h1 : p ()) : XIf t p q := by subst h; exact h1
theorem xif_f {t : Bool} {p q : Unit → Prop} (h : t = false) (h1 : q ()) : XIf t p q := by subst h; exact h1

theorem g1 {x : Bool} (h : (x == true) = true) : x = true := by simpa using h
theorem g0 {x : Bool} (h : (x == true) = false) : x = false := by simpa using h
theorem k1 {x : Bool} (h : (x == false) = true) : x = false := by simpa using h
theorem k0 {x : Bool} (h : (x == false) = false) : x = true := by simpa using h

theorem rng_u8 {x : Int} (h : Fact (.i .u8 x)) : 0 ≤ x ∧ x ≤ 255 := h.i
theorem rng_u16 {x : Int} (h : Fact (.i .u16 x)) : 0 ≤ x ∧ x ≤ 65535 := h.i
theorem rng_u32 {x : Int} (h : Fact (.i .u32 x)) : 0 ≤ x ∧ x ≤ 4294967295 := h.i
theorem rng_u64 {x : Int} (h : Fact (.i .u64 x)) : 0 ≤ x ∧ x ≤ 18446744073709551615 := h.i
theorem rng_i64 {x : Int} (h : Fact (.i .i64 x)) : -9223372036854775808 ≤ x ∧ x ≤ 9223372036854775807 := h.i

theorem wraps : (∀ x, IntKind.u8.wrap x = x % 256) ∧ (∀ x, IntKind.u16.wrap x = x % 65536) ∧ (∀ x, IntKind.u32.wrap x = x % 4294967296) ∧ (∀ x, IntKind.u64.wrap x = x % 18446744073709551616) ∧
    (∀ x, IntKind.i64.wrap x = (x + 9223372036854775808) % 18446744073709551616 - 9223372036854775808) := by
  refine ⟨fun x => rfl, fun x => rfl, fun x => rfl, fun x => rfl, fun x => ?_⟩
  rw [IntKind.wrap_i64]
end GoX
/- No slice is an empty row of one's own. -/
set_option autoImplicit false
namespace GoX
open Go

/-- a row more, of no cells. -/
def St.row0 (d : Nat) (τ : Ty) (s : St) : St := (s.scrub (fun i => i == d)).upd [] [(d, .row τ [])]
def setL (l : List (Nat × V)) (t : Nat) (v : V) : List (Nat × V) := (t, v) :: l.filter fun p => p.1 != t
def St.nsT (t d : Nat) (τ : Ty) (s : St) : St := ⟨setL (s.row0 d τ).t t (.ow d τ 0 0), (s.row0 d τ).h⟩
def St.nsC (id ix d : Nat) (τ : Ty) (cs : List V) (s : St) : St := (s.scrub (fun i => i == d)).upd [id] [(id, .cells (cs.set ix (.ow d τ 0 0))), (d, .row τ [])]

section
variable {E : Ent} {n : Nat} {ρ : Nat → Place} {I : Nat → Prop} {s : St} {a : Go.Act} {w : World}

theorem row0_ok {d : Nat} {τ : Ty} (hd : 32 ≤ d) (R : RS E n ρ I s a w) : RS E n (rhoNew ρ (fun i => i == d) ⟨0, 0, 0⟩) I (s.row0 d τ) a w := by
  have R1 := R.scrub (fun i => i == d)
  have hp : rhoNew ρ (fun i => i == d) ⟨0, 0, 0⟩ d = ⟨0, 0, 0⟩ := by simp [rhoNew]
  refine upd_frame R1 (N := fun i => i == d) (scrub_clean s _) (fun id h => ?_) (fun p hp => ?_) ?_ ?_
  · simp only [beq_iff_eq] at h; subst h; simp [lateN, hd]
  · simp only [List.mem_singleton] at hp; subst hp; right; simp
  · refine ⟨R1.heap.glob.mono (fun _ h => h) (fun _ _ => rfl), ?_, ?_, ?_, R1.heap.lt⟩
    · intro j y hj
      obtain ⟨rfl, rfl⟩ := lk_one hj
      rw [hp]; exact .inl ⟨rfl, rfl⟩
    · intro j y j' y' hj hj' hne
      obtain ⟨rfl, rfl⟩ := lk_one hj
      obtain ⟨rfl, rfl⟩ := lk_one hj'
      exact absurd rfl hne
    · intro j y hj ho
      obtain ⟨rfl, rfl⟩ := lk_one hj
      rw [hp] at ho; exact absurd ho (Nat.lt_irrefl 0)
  · refine ⟨fun _ _ _ => rfl, Nat.le_refl _, fun _ h => h, fun _ h => .inl h, ?_, rhoNew_old, ⟨rfl, rfl, rfl⟩⟩
    rintro b ⟨j, y, hj, ho, rfl⟩
    obtain ⟨rfl, rfl⟩ := lk_one hj
    rw [hp] at ho; exact absurd ho (Nat.lt_irrefl 0)

theorem lk_but {α : Type} {l : List (Nat × α)} {t t' : Nat} (h : t' ≠ t) : lk (l.filter fun p => p.1 != t) t' = lk l t' := by
  induction l with
  | nil => rfl
  | cons p l ih =>
    simp only [List.filter]
    split
    · simp only [lk, ih]
    · rename_i hp
      simp only [bne_eq_false_iff_eq] at hp
      rw [ih]; simp only [lk]; rw [if_neg (by omega)]

/-- what stands in a temporary. -/
theorem Wk.nsT {s : St} (t d : Nat) (τ : Ty) (hd : 32 ≤ d) (ht : s.get t = .ns) : Wk s (s.nsT t d τ) := by
  refine ⟨fun E n ρ I a w R => ⟨rhoNew ρ (fun i => i == d) ⟨0, 0, 0⟩, I, ?_⟩⟩
  have R1 := row0_ok (τ := τ) hd R
  refine ⟨R1.heap, R1.size, R1.nodef, fun t' => ?_, R1.loc⟩
  by_cases h : t' = t
  · subst h
    have h1 := R.tmps t'
    rw [ht] at h1
    have e : (s.nsT t' d τ).get t' = .ow d τ 0 0 := by simp [St.get, St.nsT, setL, lk]
    rw [e]
    have h2 : DenL ρ I w [.ns] [a.tmps.getD t' undef] := h1
    generalize a.tmps.getD t' undef = x at h2
    cases h2
    have := DenL.ow (ρ := rhoNew ρ (fun i => i == d) ⟨0, 0, 0⟩) (I := I) (w := w) d τ 0 0 none (by omega) (by omega) (by simp) (by exact Nat.zero_le _) (by right; simp [rhoNew]) .nil
    have e2 : (rhoNew ρ (fun i => i == d) ⟨0, 0, 0⟩ d).cap = 0 := by simp [rhoNew]
    rw [e2] at this
    exact this
  · have e : (s.nsT t d τ).get t' = (s.row0 d τ).get t' := by
      simp only [St.get, St.nsT, setL, lk]
      rw [if_neg (Ne.symm h), lk_but h]
    rw [e]; exact R1.tmps t'

theorem denL_set {cs : List V} {vs : List Value} {ix d : Nat} {τ : Ty} (h : DenL ρ I w cs vs) (hi : cs[ix]? = some .ns) (hc : (ρ d).cap = 0) : DenL ρ I w (cs.set ix (.ow d τ 0 0)) vs := by
  induction cs generalizing vs ix with
  | nil => cases hi
  | cons c cs ih =>
    cases ix with
    | zero =>
      simp only [List.getElem?_cons_zero, Option.some.injEq] at hi
      subst hi
      cases h with
      | ns h =>
        simp only [List.set_cons_zero]
        have := DenL.ow (ρ := ρ) (I := I) (w := w) d τ 0 0 none (by omega) (by omega) (by simp) (by exact Nat.zero_le _) (by right; simp [hc]) h
        rw [hc] at this
        exact this
    | succ ix =>
      simp only [List.getElem?_cons_succ] at hi
      obtain ⟨us, ws, rfl, _, h1, h2⟩ := h.cons_one
      simp only [List.set_cons_succ]
      exact h1.cons_join (ih h2 hi)

/-- what stands in a cell. -/
theorem Wk.nsC {s : St} (id ix d : Nat) (τ : Ty) (cs : List V) (hd : 32 ≤ d) (hne : id ≠ d) (ho : lk s.h id = some (.cells cs)) (hn : noL (fun i => i == d) cs = true) (hi : cs[ix]? = some .ns) : Wk s (s.nsC id ix d τ cs) := by
  refine ⟨fun E n ρ I a w R => ⟨rhoNew ρ (fun i => i == d) ⟨0, 0, 0⟩, I, ?_⟩⟩
  have R1 := R.scrub (fun i => i == d)
  have hp : rhoNew ρ (fun i => i == d) ⟨0, 0, 0⟩ d = ⟨0, 0, 0⟩ := by simp [rhoNew]
  have hq : rhoNew ρ (fun i => i == d) ⟨0, 0, 0⟩ id = ρ id := rhoNew_old id (by simpa using hne)
  have hlk : ∀ j y, lk [(id, XObj.cells (cs.set ix (.ow d τ 0 0))), (d, .row τ [])] j = some y → (j = id ∧ y = .cells (cs.set ix (.ow d τ 0 0))) ∨ (j = d ∧ y = .row τ []) := by
    intro j y h
    simp only [lk] at h
    split at h
    · injection h with h; left; exact ⟨by omega, h.symm⟩
    · split at h
      · injection h with h; right; exact ⟨by omega, h.symm⟩
      · cases h
  refine upd_frame R1 (N := fun i => i == d) (scrub_clean s _) (fun id h => ?_) (fun p hp => ?_) ?_ ?_
  · simp only [beq_iff_eq] at h; subst h; simp [lateN, hd]
  · simp only [List.mem_cons, List.not_mem_nil, or_false] at hp
    rcases hp with rfl | rfl
    · left; simp
    · right; simp
  · refine ⟨R1.heap.glob.mono (fun _ h => h) (fun _ _ => rfl), ?_, ?_, ?_, R1.heap.lt⟩
    · intro j y hj
      rcases hlk j y hj with ⟨rfl, rfl⟩ | ⟨rfl, rfl⟩
      · rw [hq]
        obtain ⟨vs, T, fr, h1, h2, h3⟩ := R.heap.ok _ _ ho
        exact ⟨vs, T, fr, h1, denL_set (h2.mono (fun _ h => h) (fun _ _ => rfl) rhoNew_old hn) hi (by rw [hp]), h3⟩
      · rw [hp]; exact .inl ⟨rfl, rfl⟩
    · intro j y j' y' hj hj' hne' o1 o2
      rcases hlk j y hj with ⟨rfl, rfl⟩ | ⟨rfl, rfl⟩
      · rcases hlk j' y' hj' with ⟨rfl, rfl⟩ | ⟨rfl, rfl⟩
        · exact absurd rfl hne'
        · rw [hp] at o2; exact absurd o2 (Nat.lt_irrefl 0)
      · rw [hp] at o1; exact absurd o1 (Nat.lt_irrefl 0)
    · intro j y hj ho'
      rcases hlk j y hj with ⟨rfl, rfl⟩ | ⟨rfl, rfl⟩
      · rw [hq]; exact R.heap.own _ _ ho trivial
      · rw [hp] at ho'; exact absurd ho' (Nat.lt_irrefl 0)
  · refine ⟨fun _ _ _ => rfl, Nat.le_refl _, fun _ h => h, fun _ h => .inl h, ?_, rhoNew_old, ⟨rfl, rfl, rfl⟩⟩
    rintro b ⟨j, y, hj, ho', rfl⟩
    rcases hlk j y hj with ⟨rfl, rfl⟩ | ⟨rfl, rfl⟩
    · rw [hq]
      left
      obtain ⟨o, e, e2⟩ : ∃ o, lk (s.scrub (fun i => i == d)).h j = some o ∧ owns (ρ j) o := by
        rw [scrub_lk, if_neg (by simpa using hne), ho]
        exact ⟨_, rfl, trivial⟩
      exact ⟨j, o, by simp [Hf.part, e], e2, rfl⟩
    · rw [hp] at ho'; exact absurd ho' (Nat.lt_irrefl 0)

theorem Wk.vk {S : Setting} {Q : XE → St → Prop} {k : List KI} {s s' : St} (h : Wk s s') (hv : VK S n Q k s') : VK S n Q k s := by
  refine ⟨fun E ρ I a w R => ?_⟩
  obtain ⟨ρ', I', R'⟩ := h.go E n ρ I a w R
  exact hv.go E ρ' I' a w R'
end
end GoX
/- What a call of a law is given, as abstract values; from a law's contract to what its row asks of a call. -/
set_option autoImplicit false
namespace GoX
open Go Go.ChangeShapes Go.WideShapes Go.RowKit

inductive AK where
  | b
  | i (k : IntKind)
  | s
  | sl (τ : Ty)
  deriving DecidableEq

inductive FitL : List AK → List V → Prop
  | nil : FitL [] []
  | b {l cs} (x : Bool) : FitL l cs → FitL (.b :: l) (.b x :: cs)
  | i {l cs} (k : IntKind) (x : Int) : FitL l cs → FitL (.i k :: l) (.i k x :: cs)
  | s {l cs} (x : Bs) : FitL l cs → FitL (.s :: l) (.s x :: cs)
  | sl {l cs} (τ : Ty) (xs : List τ.den) : FitL l cs → FitL (.sl τ :: l) (.sl τ xs :: cs)

theorem FitL.length {l : List AK} {cs : List V} (h : FitL l cs) : cs.length = l.length := by
  induction h <;> simp [*]
theorem FitL.append {l l' : List AK} {cs cs' : List V} (h : FitL l cs) (h' : FitL l' cs') : FitL (l ++ l') (cs ++ cs') := by
  induction h with
  | nil => simpa using h'
  | b x _ ih => exact .b x ih
  | i k x _ ih => exact .i k x ih
  | s x _ ih => exact .s x ih
  | sl τ xs _ ih => exact .sl τ xs ih

def tyAK : Ty → Option (List AK)
  | .int k => some [.i k]
  | .str => some [.s]
  | .change => some [.b, .i .u8]
  | .step => some [.i .i64, .i .u8, .i .u8, .i .i64, .i .i64, .i .i64, .i .u8, .i .i64, .s, .b, .i .u8]
  | .act => some [.i .u8, .s, .b, .i .u8]
  | _ => none

theorem tyAK_enc {τ : Ty} {l : List AK} {cs : List V} (h : tyAK τ = some l) (hf : FitL l cs) : ∃ x : τ.den, cs = enc τ x := by
  cases τ <;> simp only [tyAK, reduceCtorEq, Option.some.injEq] at h <;> subst h
  · cases hf with | i k x h => cases h; exact ⟨x, rfl⟩
  · cases hf with | s x h => cases h; exact ⟨x, rfl⟩
  · cases hf with | b x h => cases h with | i k y h => cases h; exact ⟨⟨x, y⟩, rfl⟩
  · cases hf with | i _ a h => cases h with | i _ b h => cases h with | i _ c h => cases h with | i _ d h => cases h with | i _ e h => cases h with | i _ f h => cases h with | i _ g h => cases h with | i _ k h => cases h with | s t h => cases h with | b u h => cases h with | i _ v h =>
      cases h; exact ⟨⟨a, b, c, d, e, ⟨f, g, k⟩, t, ⟨u, v⟩⟩, rfl⟩
  · cases hf with | i _ a h => cases h with | s t h => cases h with | b u h => cases h with | i _ v h =>
      cases h; exact ⟨⟨a, t, ⟨u, v⟩⟩, rfl⟩

def akFields (P : Program) (g : TypeId → Option (List AK)) : List Field → Nat → Option (List AK)
  | [], _ => some []
  | f :: fs, off => if f.offset = off then
      match g f.type, akFields P g fs (off + P.cellsOf f.type) with
      | some l, some r => if l.length = P.cellsOf f.type then some (l ++ r) else none
      | _, _ => none
    else none

def akShape (P : Program) (ety : TypeId → Option Ty) : Nat → TypeId → Option (List AK)
  | 0, _ => none
  | d + 1, t => match P.underlying t with
    | some .bool => some [.b]
    | some (.int k) => some [.i k]
    | some .string => some [.s]
    | some (.slice e) => match ety e with
      | some τ => match akShape P ety d e, tyAK τ with
        | some l, some l' => if l = l' ∧ P.cellsOf e = τ.size ∧ 0 < τ.size then some [.sl τ] else none
        | _, _ => none
      | none => none
    | some (.struct fs) => match akFields P (akShape P ety d) fs.toList 0 with
      | some l => if l.length = P.cellsOf t then some l else none
      | none => none
    | _ => none

section
variable {H : Type} {en : TypeId × Value → H} {P : Program} {w : World} {sp : Nat → Bool} {held : Bool} {ety : TypeId → Option Ty} (ρ : Nat → Place)

abbrev allI (w : World) : Nat → Prop := fun b => b < w.heap.size

theorem cell_lt {a : Addr} {v : Value} (h : w.cell? a = some v) : a.block < w.heap.size := by
  unfold World.cell? at h
  split at h
  · rename_i hh
    rcases Nat.lt_or_ge a.block w.heap.size with h' | h'
    · exact h'
    · simp [Array.getElem?_eq_none h'] at hh
  · cases h

theorem add_add' (a : Addr) (i j : Nat) : (a.add i).add j = a.add (i + j) := by
  unfold Addr.add
  by_cases h1 : i = 0 <;> by_cases h2 : j = 0 <;> simp [h1, h2, Nat.add_assoc]

theorem akFields_den {g : TypeId → Option (List AK)} {n : Nat} {cs : List Value}
    (ih : ∀ t l cs x, g t = some l → DataW.trod en P w 0 sp held n t cs = some x → ∃ vs, FitL l vs ∧ DenL ρ (allI w) w vs cs) :
    ∀ (fs : List Field) (off : Nat) (l : List AK), akFields P g fs off = some l → (∀ f ∈ fs, ∃ x, DataW.trod en P w 0 sp held n f.type ((cs.drop f.offset).take (P.cellsOf f.type)) = some x) →
      ∃ vs, FitL l vs ∧ DenL ρ (allI w) w vs ((cs.drop off).take l.length) := by
  intro fs
  induction fs with
  | nil => intro off l h _; simp only [akFields, Option.some.injEq] at h; subst h; exact ⟨[], .nil, by simpa using DenL.nil⟩
  | cons f fs ihf =>
    intro off l h hx
    simp only [akFields] at h
    split at h
    · rename_i ho
      split at h
      · rename_i l1 r h1 h2
        split at h
        · rename_i hl
          injection h with h; subst h
          obtain ⟨x, hf⟩ := hx f (List.mem_cons_self ..)
          obtain ⟨vs1, f1, d1⟩ := ih _ _ _ _ h1 hf
          obtain ⟨vs2, f2, d2⟩ := ihf _ _ h2 (fun f hf => hx f (List.mem_cons_of_mem _ hf))
          refine ⟨vs1 ++ vs2, f1.append f2, ?_⟩
          rw [ho] at d1
          have := d1.append d2
          rw [← hl] at this
          rw [List.length_append, List.take_add, List.drop_drop]
          exact this
        · cases h
      · cases h
    · cases h

theorem trod_den : ∀ (d : Nat) (t : TypeId) (l : List AK) (fuel : Nat) (cs : List Value) (x : DataW H × List MemPlace), akShape P ety d t = some l → DataW.trod en P w 0 sp held fuel t cs = some x →
    ∃ vs, FitL l vs ∧ DenL ρ (allI w) w vs cs := by
  intro d
  induction d with
  | zero => intro t l fuel cs x h; cases h
  | succ d ih =>
    intro t l fuel cs x h hx
    simp only [akShape] at h
    split at h
    · rename_i hu
      injection h with h; subst h
      obtain ⟨b, rfl, _⟩ := DataW.trod_bool hu hx
      exact ⟨[.b b], .b b .nil, .b b .nil⟩
    · rename_i k hu
      injection h with h; subst h
      obtain ⟨n, rfl, _, hw⟩ := DataW.trod_int hu hx
      simp only [Lit.wf, Bool.and_eq_true, decide_eq_true_eq] at hw
      exact ⟨[.i k n], .i k n .nil, .i k n hw .nil⟩
    · rename_i hu
      injection h with h; subst h
      obtain ⟨s, rfl, _, hs⟩ := DataW.trod_string hu hx
      exact ⟨[.s (toInts s)], .s _ .nil, .s s hs .nil⟩
    · rename_i e hu
      split at h
      · rename_i τ hτ
        split at h
        · rename_i l1 l2 h1 h2
          split at h
          · rename_i hc
            obtain ⟨rfl, hsz, hpos⟩ := hc
            injection h with h; subst h
            rcases DataW.trod_slice hu hx with ⟨rfl, _⟩ | ⟨a, len, cap, elems, rest, n, _, rfl, _, _, hlc, hcm, hlen, hel, _⟩
            · exact ⟨[.sl τ []], .sl τ [] .nil, .sl0 τ none 0 .nil⟩
            · by_cases h0 : len = 0
              · subst h0
                exact ⟨[.sl τ []], .sl τ [] .nil, .sl0 τ (some a) cap .nil⟩
              · have key : ∀ i, i < len → ∃ (y : τ.den) (ws : List Value), DenL ρ (allI w) w (enc τ y) ws ∧ (∀ j v, ws[j]? = some v → w.cell? (a.add (i * τ.size + j)) = some v) ∧ ws.length = τ.size := by
                  intro i hi
                  have h3 := hel i hi
                  have hei : elems[i]? = some (elems[i]'(by omega)) := List.getElem?_eq_getElem (by omega)
                  rw [hei, Option.bind_eq_some_iff] at h3
                  obtain ⟨ws, hws, ht⟩ := h3
                  obtain ⟨vs, f1, d1⟩ := ih _ _ _ _ _ h1 ht
                  obtain ⟨y, rfl⟩ := tyAK_enc h2 f1
                  obtain ⟨_, hl, hc⟩ := World.cells?_some hws
                  refine ⟨y, ws, d1, ?_, by rw [hl, hsz]⟩
                  intro j v hv
                  have hj : j < ws.length := (List.getElem?_eq_some_iff.1 hv).1
                  have := hc j (by omega)
                  rw [hv, hsz] at this
                  rw [add_add'] at this
                  exact this
                obtain ⟨f, hf⟩ : ∃ f : Nat → τ.den × List Value, ∀ i, i < len → DenL ρ (allI w) w (enc τ (f i).1) (f i).2 ∧ (∀ j v, (f i).2[j]? = some v → w.cell? (a.add (i * τ.size + j)) = some v) ∧ (f i).2.length = τ.size := by
                  classical
                  refine ⟨fun i => if h : i < len then ⟨(key i h).choose, (key i h).choose_spec.choose⟩ else ⟨τ.dflt, []⟩, fun i hi => ?_⟩
                  simp only [dif_pos hi]
                  exact (key i hi).choose_spec.choose_spec
                have hfirst : ∃ v, w.cell? (a.add 0) = some v := by
                  have := (hf 0 (by omega))
                  have hz : (f 0).2[0]? = some ((f 0).2[0]'(by omega)) := List.getElem?_eq_getElem (by omega)
                  have := this.2.1 0 _ hz
                  rw [Nat.zero_mul] at this
                  exact ⟨_, this⟩
                obtain ⟨v0, hv0⟩ := hfirst
                have ea : a.add 0 = a := by unfold Addr.add; rw [if_pos rfl]
                rw [ea] at hv0
                have hspot := World.cell?_spot hv0
                obtain ⟨blk, off, spot⟩ := a
                simp only at hspot
                subst hspot
                have hb := cell_lt hv0
                refine ⟨[.sl τ ((List.range len).map fun i => (f i).1)], .sl τ _ .nil, ?_⟩
                have hL : ((List.range len).map fun i => (f i).1).length = len := by simp
                have := DenL.sl (ρ := ρ) (I := allI w) (w := w) (cs := []) (vs := []) τ ((List.range len).map fun i => (f i).1) blk off cap (fun i => (f i).2) hb (by rw [hL]; exact hlc) (by rw [hL]; unfold okLen; unfold maxLen at hcm; omega)
                  (fun i hi => by rw [hL] at hi; simp only [List.getElem_map, List.getElem_range]; exact (hf i hi).1)
                  (fun i hi => by
                    rw [hL] at hi
                    intro j v hv
                    have := (hf i hi).2.1 j v hv
                    have e2 : (⟨blk, off, none⟩ : Addr).add (i * τ.size + j) = ⟨blk, off + i * τ.size + j, none⟩ := by
                      unfold Addr.add
                      by_cases hz : i * τ.size + j = 0
                      · rw [if_pos hz, Nat.add_assoc, hz, Nat.add_zero]
                      · rw [if_neg hz, Nat.add_assoc]
                    rw [e2] at this
                    exact this) .nil
                rw [hL] at this
                exact this
          · cases h
        · cases h
      · cases h
    · rename_i fs hu
      split at h
      · rename_i l1 h1
        split at h
        · rename_i hl
          injection h with h; subst h
          obtain ⟨xs, n, _, _, hcl, hlen, hf⟩ := DataW.trod_struct hu hx
          obtain ⟨vs, f1, d1⟩ := akFields_den (P := P) (cs := cs) (n := n) ρ (fun t l cs x => ih t l n cs x) fs.toList 0 l1 h1 (fun f hfm => by
            obtain ⟨i, hi⟩ := List.getElem?_of_mem hfm
            have hi' : fs[i]? = some f := by simpa using hi
            have := hf i f hi'
            have hlt : i < xs.length := by
              rw [hlen]
              exact (Array.getElem?_eq_some_iff.1 hi').1
            rw [this, List.getElem?_eq_getElem hlt]
            exact ⟨_, rfl⟩)
          refine ⟨vs, f1, ?_⟩
          rw [List.drop_zero, hl, ← hcl, List.take_length] at d1
          exact d1
        · cases h
      · cases h
    · cases h

/-- an argument's value. -/
def FitA (P : Program) (ety : TypeId → Option Ty) (t : TypeId) (v : V) : Prop := ∃ l, akShape P ety 20 t = some l ∧
  match P.underlying t with
  | some (.struct _) => ∃ cs, v = .agg cs ∧ FitL l cs
  | _ => FitL l [v]

def argsOk (P : Program) (ety : TypeId → Option Ty) (ts : List TypeId) : Bool := ts.all fun t => (akShape P ety 20 t).isSome && match P.underlying t with | some (.array _ _) => false | _ => true

inductive FitAs (P : Program) (ety : TypeId → Option Ty) : List TypeId → List V → Prop
  | nil : FitAs P ety [] []
  | cons {t v ts vs} : FitA P ety t v → FitAs P ety ts vs → FitAs P ety (t :: ts) (v :: vs)

theorem one_cell {d : Nat} {t : TypeId} {l : List AK} (h : akShape P ety d t = some l) (hn : ∀ fs, P.underlying t ≠ some (.struct fs)) : ∃ k, l = [k] := by
  cases d with
  | zero => cases h
  | succ d =>
    simp only [akShape] at h
    split at h
    · injection h with h; exact ⟨_, h.symm⟩
    · injection h with h; exact ⟨_, h.symm⟩
    · injection h with h; exact ⟨_, h.symm⟩
    · split at h
      · split at h
        · split at h
          · injection h with h; exact ⟨_, h.symm⟩
          · cases h
        · cases h
      · cases h
    · rename_i fs hu; exact absurd hu (hn fs)
    · cases h

theorem okWide_one {r : Reach} {b0 : Nat} {t : TypeId} {v : Value} {d : Nat} {l : List AK} (h : akShape P ety d t = some l) (hn : ∀ fs, P.underlying t ≠ some (.struct fs)) (hv : Value.okWide P w r b0 t v) : v.cells = #[v] := by
  cases v with
  | agg cs =>
    exfalso
    cases d with
    | zero => cases h
    | succ d =>
      simp only [akShape] at h
      unfold Value.okWide at hv
      split at h
      · rename_i hu; simp [hu, Cell.okWide, Cell.ok] at hv
      · rename_i hu; simp [hu, Cell.okWide, Cell.ok] at hv
      · rename_i hu; simp [hu, Cell.okWide, Cell.ok] at hv
      · rename_i hu; simp [hu, Cell.okWide, Cell.ok] at hv
      · rename_i fs hu; exact absurd hu (hn fs)
      · cases h
  | _ => rfl

theorem args_den : ∀ {ts : List TypeId} {vs : List Value} {ds : List (DataW H)} {p : List MemPlace}, argsOk P ety ts = true → DataW.TrodAll en P w 0 sp held ts vs ds p →
    (∀ (j : Nat) t v, ts[j]? = some t → vs[j]? = some v → ∃ r b0, Value.okWide P w r b0 t v) → ∃ az, FitAs P ety ts az ∧ DenT ρ (allI w) w az vs := by
  intro ts
  induction ts with
  | nil =>
    intro vs ds p _ h _
    obtain ⟨rfl, rfl, rfl⟩ := trodAll_nil h
    exact ⟨[], .nil, .nil⟩
  | cons t ts ih =>
    intro vs ds p ho h hw
    simp only [argsOk, List.all_cons, Bool.and_eq_true] at ho
    obtain ⟨⟨ho1, ho2⟩, ho3⟩ := ho
    obtain ⟨v, vs1, d, ds1, a, b, rfl, rfl, rfl, ⟨fuel, h1⟩, h2⟩ := trodAll_cons h
    obtain ⟨az, fa, da⟩ := ih (by simpa [argsOk] using ho3) h2 (fun j t v hj hv => hw (j + 1) t v (by simpa using hj) (by simpa using hv))
    obtain ⟨l, hl⟩ := Option.isSome_iff_exists.1 ho1
    obtain ⟨cs, fl, dl⟩ := trod_den ρ 20 t l fuel _ _ hl h1
    obtain ⟨r, b0, hok⟩ := hw 0 t v (by simp) (by simp)
    by_cases hs : ∃ fs, P.underlying t = some (.struct fs)
    · obtain ⟨fs, hu⟩ := hs
      obtain ⟨xs, rfl, _⟩ := okWide_struct hu hok
      refine ⟨.agg cs :: az, .cons ⟨l, hl, by rw [hu]; exact ⟨cs, rfl, fl⟩⟩ fa, .cons ⟨xs.toList, by simp, dl⟩ da⟩
    · have hn : ∀ fs, P.underlying t ≠ some (.struct fs) := fun fs e => hs ⟨fs, e⟩
      rw [okWide_one hl hn hok] at dl
      obtain ⟨k, rfl⟩ := one_cell hl hn
      have hlen := fl.length
      match cs, hlen, fl, dl with
      | [c], _, fl, dl =>
        refine ⟨c :: az, .cons ⟨[k], hl, ?_⟩ fa, .cons ?_ da⟩
        · split
          · rename_i fs hu; exact absurd hu (hn fs)
          · exact fl
        · cases fl <;> exact dl

theorem FitAs.uncons {t : TypeId} {ts : List TypeId} {az : List V} (h : FitAs P ety (t :: ts) az) : ∃ v vs, az = v :: vs ∧ FitA P ety t v ∧ FitAs P ety ts vs := by
  cases h with | cons h1 h2 => exact ⟨_, _, rfl, h1, h2⟩
theorem FitAs.done {az : List V} (h : FitAs P ety [] az) : az = [] := by cases h; rfl
theorem FitA.str {t : TypeId} {v : V} {fs : Array Field} {l : List AK} (h : FitA P ety t v) (hu : P.underlying t = some (.struct fs)) (hl : akShape P ety 20 t = some l) : ∃ cs, v = .agg cs ∧ FitL l cs := by
  obtain ⟨l', h1, h2⟩ := h
  rw [hl] at h1; injection h1 with h1; subst h1
  rw [hu] at h2; exact h2
theorem FitA.cell {t : TypeId} {v : V} {k : AK} (h : FitA P ety t v) (hu : ∀ fs, P.underlying t ≠ some (.struct fs)) (hl : akShape P ety 20 t = some [k]) : FitL [k] [v] := by
  obtain ⟨l', h1, h2⟩ := h
  rw [hl] at h1; injection h1 with h1; subst h1
  split at h2
  · rename_i fs h; exact absurd h (hu fs)
  · exact h2
theorem FitL.i1 {k : IntKind} {v : V} (h : FitL [.i k] [v]) : ∃ x, v = .i k x := by cases h; exact ⟨_, rfl⟩
theorem FitL.s1 {v : V} (h : FitL [.s] [v]) : ∃ x, v = .s x := by cases h; exact ⟨_, rfl⟩
theorem FitL.sl1 {τ : Ty} {v : V} (h : FitL [.sl τ] [v]) : ∃ x, v = .sl τ x := by cases h; exact ⟨_, rfl⟩

/-- the call itself. -/
theorem sim_calls {f : FuncId} {fn : Func} {code : Code} (hf : P.funcs[f]? = some fn) (hb : fn.body = some code) (hn : (fn.name == "runtime.NumGoroutine") = false) {az : List V} (hs : Sim P f az [] [] (.val (.b true)) [])
    (hg : Glob (allI w) w) {args : Array Value} (hd : DenT ρ (allI w) w az args.toList) : Calls P f args w fun e w' => e = .returned (.bool true) ∧ Below w.heap.size w w' := by
  have H : RH ρ (allI w) w (lk []) := ⟨hg, (fun _ _ h => by cases h), (fun _ _ _ _ h => by cases h), (fun _ _ h => by cases h), fun _ h => h⟩
  have key := hs.go ρ (allI w) w args.toList H hd
  rw [Array.toArray_toList] at key
  rcases key with ⟨_, h⟩ | ⟨v, w', h, _⟩
  · refine h.mono ?_
    rintro e w' ⟨ρ', I', H', L, hE⟩
    have no : ∀ b, ¬ Own ρ (lk []) b := by rintro b ⟨id, o, h, _⟩; cases h
    refine ⟨?_, ⟨L.rest.1, L.rest.2.1, L.rest.2.2, L.size, fun k hk => L.keep k hk (no k)⟩⟩
    cases e with
    | returned x =>
      have : DenL ρ' I' w' [.b true] [x] := hE
      cases this; rfl
    | panicked ch => exact hE.elim
    | _ => exact hE.elim
  · rw [callFunc_enter hf hb hn] at h; cases h

/-- WHAT A ROW ASKS OF A CALL, of a law whose contract is that it answers true. -/
theorem law_post {f : FuncId} {fn : Func} {s : ChangeSpec} {apart fresh handsOn again : Bool} {tb : TypeId} (hf : P.funcs[f]? = some fn) (hb : fn.body.isSome = true) (hn : (fn.name == "runtime.NumGoroutine") = false)
    (hv : s.vars = []) (hspec : ∀ ds : List (DataW H), ds.length = fn.params.size → s.fn H ds = { results := [.lit (.bool true)], args := ds }) (hres : fn.resultTypes = #[tb]) (htb : P.underlying tb = some .bool)
    (hlaid : laidOutB P = true) (hpar : ∀ t ∈ fn.params.toList, P.readableRec t = true ∧ t < P.types.size) (hao : argsOk P ety fn.params.toList = true)
    (hsim : ∀ az, FitAs P ety fn.params.toList az → Sim P f az [] [] (.val (.b true)) [])
    {W : World} {base : Nat} {args : Array Value} {ds gs : List (DataW H)} {before : List MemPlace}
    (hok : ∀ (j : Nat) t v, fn.params[j]? = some t → args[j]? = some v → Value.okWide P W .any base t v)
    (hW : DataW.Whole en P fn.params.toList s.vars apart W args.toList ds gs before) (hg : Glob (allI W) W) :
    Calls P f args W fun e W' => ∃ v, e = .returned v ∧ s.post en P fn apart fresh handsOn again W args v W' := by
  obtain ⟨code, hb⟩ := Option.isSome_iff_exists.1 hb
  have hW0 := hW
  obtain ⟨p, q, hA, hV, rfl, _, _⟩ := hW
  rw [hv] at hV
  obtain ⟨hgs, hq⟩ : gs = [] ∧ q = [] := by
    cases gs with
    | nil => exact ⟨rfl, hV⟩
    | cons _ _ => exact hV.elim
  subst hgs; subst hq
  have hlen : ds.length = fn.params.size := by
    have : ∀ {ts : List TypeId} {vs : List Value} {ds : List (DataW H)} {p : List MemPlace}, DataW.TrodAll en P W 0 (fun _ => true) true ts vs ds p → ds.length = ts.length := by
      intro ts
      induction ts with
      | nil => intro vs ds p h; obtain ⟨_, rfl, _⟩ := trodAll_nil h; rfl
      | cons t ts ih => intro vs ds p h; obtain ⟨v, vs1, d, ds1, a, b, rfl, rfl, rfl, _, h2⟩ := trodAll_cons h; simp [ih h2]
    rw [this hA, Array.length_toList]
  obtain ⟨az, fa, da⟩ := args_den (ety := ety) (fun _ => ⟨0, 0, 0⟩) hao hA (fun j t v hj hv => ⟨.any, base, hok j t v (by simpa using hj) (by simpa using hv)⟩)
  refine (sim_calls (fun _ => ⟨0, 0, 0⟩) hf hb hn (hsim az fa) hg da).mono ?_
  rintro e W' ⟨rfl, hB⟩
  refine ⟨_, rfl, ?_⟩
  have hlt : ∀ x ∈ p, x.block < W.heap.size := fun x hx => hW0.lt x (by simpa using hx)
  have hargs : ∀ sp : Nat → Bool, (∀ x ∈ p, sp x.block = true) → DataW.TrodAll en P W' 0 sp true fn.params.toList args.toList ds p := by
    intro sp hsp
    have : ∀ {ts : List TypeId} {vs : List Value} {ds : List (DataW H)} {p : List MemPlace}, (∀ t ∈ ts, P.readableRec t = true ∧ t < P.types.size) → (∀ x ∈ p, x.block < W.heap.size) → (∀ x ∈ p, sp x.block = true) →
        DataW.TrodAll en P W 0 (fun _ => true) true ts vs ds p → DataW.TrodAll en P W' 0 sp true ts vs ds p := by
      intro ts
      induction ts with
      | nil => intro vs ds p _ _ _ h; obtain ⟨rfl, rfl, rfl⟩ := trodAll_nil h; exact h
      | cons t ts ih =>
        intro vs ds p hp hl hs h
        obtain ⟨v, vs1, d, ds1, a, b, rfl, rfl, rfl, h1, h2⟩ := trodAll_cons h
        obtain ⟨r1, r2⟩ := hp t (List.mem_cons_self ..)
        exact ⟨a, b, WideElems.Trod_stays hlaid r1 r2 h1 (fun x hx => hB.same (hl x (List.mem_append_left _ hx))) (fun x hx => hs x (List.mem_append_left _ hx)),
          ih (fun t ht => hp t (List.mem_cons_of_mem _ ht)) (fun x hx => hl x (List.mem_append_right _ hx)) (fun x hx => hs x (List.mem_append_right _ hx)) h2, rfl⟩
    exact this hpar hlt hsp hA
  have hsf : s.fn H (ds ++ []) = { results := [.lit (.bool true)], args := ds } := by rw [List.append_nil]; exact hspec ds hlen
  have hold : ∀ x ∈ p, (fun b => decide (b < W.heap.size)) x.block = true := fun x hx => by simpa using hlt x hx
  have hr : ∀ (b : Nat) (sp : Nat → Bool) (hd : Bool), DataW.TrodAll en P W' b sp hd fn.resultTypes.toList ((Value.bool true).resultList fn.resultTypes.size) (s.fn H (ds ++ [])).results [] := by
    intro b sp hd
    rw [hsf, hres]
    exact trodAll_mk1 (shut_bool htb true)
  refine ⟨ds, [], p ++ [], [], p, [], hW0, hr _ _ _, by rw [hsf]; exact hargs _ hold, by rw [hv, hsf]; rfl, World.keptBut_mono (fun x hx => ⟨hx, by simpa using hx⟩) (hB.frame (· ∈ p ++ [])), fun _ => ?_⟩
  obtain ⟨_, _, _, _, e, hz, hnd⟩ := hW0
  refine ⟨ok_one hres rfl (okWide_bool_mk htb true), [.lit (.bool true)] ++ ds, [], ([] ++ p) ++ [], ⟨[] ++ p, [], ?_, by rw [hv]; rfl, rfl, ?_, ?_⟩, ?_⟩
  · have h1 := hr 0 (fun _ => true) true
    rw [hsf] at h1
    exact trodAll_append (hargs _ (fun _ _ => rfl)) h1
  · intro b off hp
    have hin : MemPlace.cell b off ∈ p := by simpa using hp
    rw [hB.frozen (hlt _ hin)]
    exact hz b off (by simpa using hin)
  · intro ha
    simpa using hnd ha
  · intro x hx _
    simpa using hx
end
end GoX
/- What the listed variables hold, as abstract values. -/
set_option autoImplicit false
namespace GoX
open Go

section
variable {P : Program} {w : World}

theorem laid_mem : ∀ {l : List (String × DataW Unit)} {ps : List MemPlace}, DataW.LaidVars P w l ps → ∀ {i : Nat} {n : String} {d : DataW Unit}, l[i]? = some (n, d) →
    ∃ g t cs fuel p, P.globalNamed n = some g ∧ (P.globals[g]?).map (·.type) = some t ∧ w.var? P n = some cs ∧ DataW.trod (fun _ => ()) P w 0 (fun _ => true) false fuel t cs.toList = some (d, p) := by
  intro l
  induction l with
  | nil => intro ps _ i n d h; simp at h
  | cons x l ih =>
    obtain ⟨m, e⟩ := x
    intro ps hl i n d h
    obtain ⟨g, t, cs, fuel, p, q, h1, h2, h3, h4, h5, _⟩ := hl
    cases i with
    | zero =>
      simp only [List.getElem?_cons_zero, Option.some.injEq, Prod.mk.injEq] at h
      obtain ⟨rfl, rfl⟩ := h
      exact ⟨g, t, cs, fuel, p, h1, h2, h3, h4⟩
    | succ i => exact ih h5 (by simpa using h)

theorem laid_at {laid : List (String × DataW Unit)} (h : laidMetH P laid w) (hp : (laid.any fun x => x.2.handleName?.isSome) = false) {i : Nat} {n : String} {d : DataW Unit} {g t : Nat} (hm : laid[i]? = some (n, d))
    (hg : P.globalNamed n = some g) (ht : (P.globals[g]?).map (·.type) = some t) :
    ∃ cs fuel p, DataW.trod (fun _ => ()) P w 0 (fun _ => true) false fuel t cs = some (d, p) ∧ cellsAt w g 0 cs := by
  unfold laidMetH at h
  have he : (laid.filter fun x => x.2.handleName?.isSome) = [] := by
    rw [List.filter_eq_nil_iff]
    intro x hx hh
    rw [List.any_eq_false] at hp
    exact hp x hx hh
  rw [he] at h
  obtain ⟨ps, hl, _⟩ := h
  obtain ⟨g', t', cs, fuel, p, h1, h2, h3, h4⟩ := laid_mem hl hm
  obtain rfl := Option.some.inj (hg.symm.trans h1)
  obtain rfl := Option.some.inj (ht.symm.trans h2)
  refine ⟨cs.toList, fuel, p, h4, fun j v hv => ?_⟩
  rw [Nat.zero_add, World.var?_cell hg h3 j]
  simpa using hv

theorem trod_ifc {H : Type} {en : TypeId × Value → H} {base : Nat} {sp : Nat → Bool} {fuel : Nat} {t : TypeId} {ms : Array (String × TypeId)} {cs : List Value} {name : String} {y : DataW H} {p : List MemPlace} (hu : P.underlying t = some (.interface ms))
    (h : DataW.trod en P w base sp false fuel t cs = some (.iface name y, p)) : ∃ u v, cs = [.iface u v] ∧ P.typeName? 3 u = some name := by
  cases fuel with
  | zero => simp [DataW.trod] at h
  | succ n =>
    unfold DataW.trod at h
    rw [hu] at h
    split at h <;> simp_all
    rename_i u v
    split at h <;> simp_all

theorem glob_ifc {laid : List (String × DataW Unit)} (h : laidMetH P laid w) (hp : (laid.any fun x => x.2.handleName?.isSome) = false) {i : Nat} {n name : String} {y : DataW Unit} {g t : Nat} {ms : Array (String × TypeId)} (hm : laid[i]? = some (n, .iface name y))
    (hg : P.globalNamed n = some g) (ht : (P.globals[g]?).map (·.type) = some t) (hu : P.underlying t = some (.interface ms)) (T : Nat) :
    allI w g ∧ ∃ vs, DenL (fun _ => ⟨0, 0, 0⟩) (allI w) w [.ifc T .junk] vs ∧ cellsAt w g 0 vs := by
  obtain ⟨cs, fuel, p, h1, h2⟩ := laid_at h hp hm hg ht
  obtain ⟨u, v, rfl, _⟩ := trod_ifc hu h1
  exact ⟨cell_lt (h2 0 _ rfl), _, .ifc T u .junk v (fun h => absurd rfl h) (fun h => absurd rfl h) .nil, h2⟩

theorem trod_ints {H : Type} {en : TypeId × Value → H} {base : Nat} {sp : Nat → Bool} {held : Bool} {fuel N : Nat} {t e : TypeId} {k : IntKind} {cs : List Value} {ns : List Int} {p : List MemPlace} (hu : P.underlying t = some (.array N e)) (he : P.underlying e = some (.int k))
    (hc : P.cellsOf e = 1) (hN : P.cellsOf t = N) (h : DataW.trod en P w base sp held fuel t cs = some (.agg (ns.map fun n => .lit (.int k n)), p)) : cs = ns.map (Value.int k) ∧ ns.length = N ∧ ∀ n ∈ ns, inR k n := by
  obtain ⟨xs, m, _, hx, hl, hxl, hi⟩ := DataW.trod_array hu h
  simp only [Prod.mk.injEq, DataW.agg.injEq] at hx
  have hlen : ns.length = N := by
    have := congrArg List.length hx.1
    simp only [List.length_map] at this
    omega
  have key : ∀ i (hn : i < ns.length), cs[i]? = some (.int k ns[i]) ∧ inR k ns[i] := by
    intro i hn
    have h1 := hi i (by omega)
    rw [hc, Nat.mul_one] at h1
    have hxi : xs[i]? = some (xs[i]'(by omega)) := List.getElem?_eq_getElem (by omega)
    rw [hxi] at h1
    obtain ⟨z, e1, e2, hw⟩ := DataW.trod_int he h1
    have e3 := congrArg (fun l : List (DataW H) => l[i]?) hx.1
    simp only [List.getElem?_map, hxi, List.getElem?_eq_getElem hn, Option.map_some, Option.some.injEq] at e3
    rw [e2] at e3
    simp only [DataW.lit.injEq, Lit.int.injEq, true_and] at e3
    subst e3
    simp only [Lit.wf, Bool.and_eq_true, decide_eq_true_eq] at hw
    refine ⟨?_, hw⟩
    have := congrArg (fun l : List Value => l[0]?) e1
    simpa [List.getElem?_take, List.getElem?_drop] using this
  refine ⟨?_, hlen, fun n hn => ?_⟩
  · apply List.ext_getElem?
    intro i
    by_cases hn : i < ns.length
    · rw [(key i hn).1, List.getElem?_map, List.getElem?_eq_getElem hn]; rfl
    · rw [List.getElem?_eq_none (by omega), List.getElem?_eq_none (by simp; omega)]
  · obtain ⟨i, hi, rfl⟩ := List.mem_iff_getElem.1 hn
    exact (key i hi).2

theorem den_ints {ρ : Nat → Place} {I : Nat → Prop} {k : IntKind} {ns : List Int} (h : ∀ n ∈ ns, inR k n) : DenL ρ I w [.ar (.int k) ns.length ns] (ns.map (Value.int k)) := by
  have : DenL ρ I w (ns.flatMap (enc (.int k))) (ns.map (Value.int k)) := by
    induction ns with
    | nil => exact .nil
    | cons n ns ih =>
      rw [List.flatMap_cons, List.map_cons]
      exact .i k n (h n (List.mem_cons_self ..)) (ih fun m hm => h m (List.mem_cons_of_mem _ hm))
  have := DenL.ar (.int k) ns _ this .nil
  rwa [List.append_nil] at this

theorem glob_ints {laid : List (String × DataW Unit)} (h : laidMetH P laid w) (hp : (laid.any fun x => x.2.handleName?.isSome) = false) {i : Nat} {n : String} {g t e N : Nat} {k : IntKind} {ns : List Int} (hm : laid[i]? = some (n, .agg (ns.map fun n => .lit (.int k n))))
    (hg : P.globalNamed n = some g) (ht : (P.globals[g]?).map (·.type) = some t) (hu : P.underlying t = some (.array N e)) (he : P.underlying e = some (.int k)) (hc : P.cellsOf e = 1) (hN : P.cellsOf t = N) (hpos : 0 < N) :
    allI w g ∧ ∃ vs, DenL (fun _ => ⟨0, 0, 0⟩) (allI w) w [.ar (.int k) N ns] vs ∧ cellsAt w g 0 vs := by
  obtain ⟨cs, fuel, p, h1, h2⟩ := laid_at h hp hm hg ht
  obtain ⟨rfl, hl, hr⟩ := trod_ints hu he hc hN h1
  have hd := den_ints (w := w) (ρ := fun _ => ⟨0, 0, 0⟩) (I := allI w) hr
  rw [hl] at hd
  have h0 : (ns.map (Value.int k))[0]? = some ((ns.map (Value.int k))[0]'(by simp; omega)) := List.getElem?_eq_getElem _
  exact ⟨cell_lt (h2 0 _ h0), _, hd, h2⟩
end
end GoX
/- Sets of members, as numbers: what the program's operations on bits make of them. -/
set_option autoImplicit false
namespace GoX.M
open GoX Go

def has (s id : Int) : Bool := s.toNat.testBit id.toNat
def bit (id : Int) : Int := if id < 16 then ((2 ^ id.toNat : Nat) : Int) else 0
def wth (s id : Int) : Int := if has s id then s else s + bit id
def wout (s id : Int) : Int := if has s id then s - bit id else s
def members (s : Int) : List Int := ((List.range 16).filter fun i => s.toNat.testBit i).map Int.ofNat
def size (s : Int) : Int := ((members s).length : Int)
/-- a set's number. -/
def isSet (s : Int) : Prop := 0 ≤ s ∧ s ≤ 65535

/-! views -/
def rollRight (r : Roll) : Bool := decide (0 ≤ r.view) && decide (r.view ≤ 1000) && decide (r.members ≠ 0)
def rollApply (r : Roll) (c : Change) : Roll × Int :=
  if !rollRight r || decide (16 ≤ c.id) then (⟨0, 0⟩, 2)
  else if c.add && has r.members c.id then (⟨0, 0⟩, 9)
  else if !c.add && !has r.members c.id then (⟨0, 0⟩, 8)
  else if r.view = 1000 then (⟨0, 0⟩, 11)
  else
    let m := if c.add then wth r.members c.id else wout r.members c.id
    if m = 0 then (⟨0, 0⟩, 10) else (⟨r.view + 1, m⟩, 0)

/-- the views from one on. -/
def steps : Roll → List Change → List Roll
  | r, [] => [r]
  | r, c :: l => r :: (if (rollApply r c).2 = 0 then steps (rollApply r c).1 l else [])
def rollPath (r : Roll) (l : List Change) : List Roll := if rollRight r then steps r l else []

theorem bit_shl {id : Int} (h0 : 0 ≤ id) (h1 : id ≤ 255) : IntKind.u16.wrap (shB true .u64 1 id) = bit id := by
  have key : ∀ n : Fin 256, IntKind.u16.wrap (shB true .u64 1 (n.val : Int)) = bit (n.val : Int) := by decide +kernel
  have := key ⟨id.toNat, by omega⟩
  rwa [show ((id.toNat : Nat) : Int) = id from by omega] at this

theorem bit_nat {id : Int} (h1 : id < 16) : bit id = ((2 ^ id.toNat : Nat) : Int) := by unfold bit; rw [if_pos h1]
theorem bit_big {id : Int} (h1 : 16 ≤ id) : bit id = 0 := by unfold bit; rw [if_neg (by omega)]
theorem bit_pos {id : Int} (h1 : id < 16) : 0 < bit id := by
  rw [bit_nat h1]
  exact_mod_cast Nat.two_pow_pos id.toNat
theorem bit_succ {i : Int} (h0 : 0 ≤ i) (h1 : i < 15) : bit (i + 1) = 2 * bit i := by
  have key : ∀ n : Fin 15, bit ((n.val : Int) + 1) = 2 * bit (n.val : Int) := by decide
  have := key ⟨i.toNat, by omega⟩
  rwa [show ((i.toNat : Nat) : Int) = i from by omega] at this
theorem bit_set {id : Int} (h0 : 0 ≤ id) : isSet (bit id) := by
  by_cases h1 : id < 16
  · rw [bit_nat h1]
    have : 2 ^ id.toNat ≤ 2 ^ 15 := Nat.pow_le_pow_right (by omega) (by omega)
    generalize 2 ^ id.toNat = z at this
    exact ⟨by omega, by omega⟩
  · rw [bit_big (by omega)]; exact ⟨by omega, by omega⟩

theorem bits16 (op : BinOp) (m n : Nat) : bitsI op .u16 (m : Int) (n : Int) = (((match op with | .and => BitVec.ofNat 16 m &&& BitVec.ofNat 16 n | .or => BitVec.ofNat 16 m ||| BitVec.ofNat 16 n | .xor => BitVec.ofNat 16 m ^^^ BitVec.ofNat 16 n | _ => BitVec.ofNat 16 m &&& ~~~BitVec.ofNat 16 n).toNat : Nat) : Int) % 65536 := by
  rw [← BitVec.ofInt_natCast, ← BitVec.ofInt_natCast]; rfl
theorem and_nat {a b : Int} (ha : isSet a) (hb : isSet b) : bitsI .and .u16 a b = ((a.toNat &&& b.toNat : Nat) : Int) := by
  obtain ⟨m, rfl⟩ := Int.eq_ofNat_of_zero_le ha.1
  obtain ⟨n, rfl⟩ := Int.eq_ofNat_of_zero_le hb.1
  have h1 := ha.2; have h2 := hb.2
  have hm : m < 65536 := by omega
  have hn : n < 65536 := by omega
  rw [bits16]
  simp only [Int.toNat_natCast]
  have hl : m &&& n < 2 ^ 16 := Nat.and_lt_two_pow m (by simpa using hn)
  have : (BitVec.ofNat 16 m &&& BitVec.ofNat 16 n).toNat = m &&& n := by
    rw [BitVec.toNat_and, BitVec.toNat_ofNat, BitVec.toNat_ofNat, Nat.mod_eq_of_lt (by simpa using hm), Nat.mod_eq_of_lt (by simpa using hn)]
  rw [this]
  omega

theorem or_nat {a b : Int} (ha : isSet a) (hb : isSet b) : bitsI .or .u16 a b = ((a.toNat ||| b.toNat : Nat) : Int) := by
  obtain ⟨m, rfl⟩ := Int.eq_ofNat_of_zero_le ha.1
  obtain ⟨n, rfl⟩ := Int.eq_ofNat_of_zero_le hb.1
  have h1 := ha.2; have h2 := hb.2
  have hm : m < 2 ^ 16 := by omega
  have hn : n < 2 ^ 16 := by omega
  rw [bits16]
  simp only [Int.toNat_natCast]
  have hl : m ||| n < 2 ^ 16 := Nat.or_lt_two_pow hm hn
  have : (BitVec.ofNat 16 m ||| BitVec.ofNat 16 n).toNat = m ||| n := by
    rw [BitVec.toNat_or, BitVec.toNat_ofNat, BitVec.toNat_ofNat, Nat.mod_eq_of_lt hm, Nat.mod_eq_of_lt hn]
  rw [this]
  omega

theorem xor_nat {a b : Int} (ha : isSet a) (hb : isSet b) : bitsI .xor .u16 a b = ((a.toNat ^^^ b.toNat : Nat) : Int) := by
  obtain ⟨m, rfl⟩ := Int.eq_ofNat_of_zero_le ha.1
  obtain ⟨n, rfl⟩ := Int.eq_ofNat_of_zero_le hb.1
  have h1 := ha.2; have h2 := hb.2
  have hm : m < 2 ^ 16 := by omega
  have hn : n < 2 ^ 16 := by omega
  rw [bits16]
  simp only [Int.toNat_natCast]
  have hl : m ^^^ n < 2 ^ 16 := Nat.xor_lt_two_pow hm hn
  have : (BitVec.ofNat 16 m ^^^ BitVec.ofNat 16 n).toNat = m ^^^ n := by
    rw [BitVec.toNat_xor, BitVec.toNat_ofNat, BitVec.toNat_ofNat, Nat.mod_eq_of_lt hm, Nat.mod_eq_of_lt hn]
  rw [this]
  omega

theorem andNot_nat {a b : Int} (ha : isSet a) (hb : isSet b) : bitsI .andNot .u16 a b = ((a.toNat - (a.toNat &&& b.toNat) : Nat) : Int) := by
  obtain ⟨m, rfl⟩ := Int.eq_ofNat_of_zero_le ha.1
  obtain ⟨n, rfl⟩ := Int.eq_ofNat_of_zero_le hb.1
  have h1 := ha.2; have h2 := hb.2
  have hm : m < 2 ^ 16 := by omega
  have hn : n < 2 ^ 16 := by omega
  rw [bits16]
  simp only [Int.toNat_natCast]
  have hl : m &&& n ≤ m := Nat.and_le_left
  have h3 : BitVec.ofNat 16 m = (BitVec.ofNat 16 m &&& ~~~BitVec.ofNat 16 n) + (BitVec.ofNat 16 m &&& BitVec.ofNat 16 n) := by
    rw [BitVec.add_eq_or_of_and_eq_zero]
    · ext i hi
      simp only [BitVec.getElem_or, BitVec.getElem_and, BitVec.getElem_not]
      generalize (BitVec.ofNat 16 m)[i] = x
      generalize (BitVec.ofNat 16 n)[i] = y
      cases x <;> cases y <;> rfl
    · ext i hi
      simp only [BitVec.getElem_and, BitVec.getElem_not, BitVec.getElem_zero]
      generalize (BitVec.ofNat 16 m)[i] = x
      generalize (BitVec.ofNat 16 n)[i] = y
      cases x <;> cases y <;> rfl
  have h4 := congrArg BitVec.toNat h3
  rw [BitVec.toNat_add, BitVec.toNat_ofNat, Nat.mod_eq_of_lt hm] at h4
  have h5 : (BitVec.ofNat 16 m &&& BitVec.ofNat 16 n).toNat = m &&& n := by
    rw [BitVec.toNat_and, BitVec.toNat_ofNat, BitVec.toNat_ofNat, Nat.mod_eq_of_lt hm, Nat.mod_eq_of_lt hn]
  rw [h5] at h4
  have h6 : (BitVec.ofNat 16 m &&& ~~~BitVec.ofNat 16 n).toNat ≤ m := by
    rw [BitVec.toNat_and, BitVec.toNat_ofNat, Nat.mod_eq_of_lt hm]; exact Nat.and_le_left
  have h7 : (BitVec.ofNat 16 m &&& ~~~BitVec.ofNat 16 n).toNat = m - (m &&& n) := by
    generalize (BitVec.ofNat 16 m &&& ~~~BitVec.ofNat 16 n).toNat = q at h4 h6
    omega
  rw [h7]
  omega

theorem and_two_pow (m i : Nat) : m &&& 2 ^ i = if m.testBit i then 2 ^ i else 0 := by
  apply Nat.eq_of_testBit_eq
  intro j
  rw [Nat.testBit_and, Nat.testBit_two_pow]
  by_cases hj : i = j
  · subst hj
    cases h : m.testBit i <;> simp [Nat.testBit_two_pow]
  · cases h : m.testBit i <;> simp [hj, Nat.testBit_two_pow]

theorem has_big {s id : Int} (hs : isSet s) (h : 16 ≤ id) : has s id = false := by
  unfold has
  refine Nat.testBit_lt_two_pow ?_
  have : 2 ^ 16 ≤ 2 ^ id.toNat := Nat.pow_le_pow_right (by omega) (by omega)
  have := hs.2
  omega

theorem and_bit {s id : Int} (hs : isSet s) (h0 : 0 ≤ id) : bitsI .and .u16 s (bit id) = if has s id then bit id else 0 := by
  rw [and_nat hs (bit_set h0)]
  by_cases h1 : id < 16
  · rw [bit_nat h1]
    simp only [Int.toNat_natCast]
    rw [and_two_pow]
    unfold has
    cases s.toNat.testBit id.toNat <;> simp
  · rw [bit_big (by omega), has_big hs (by omega)]; simp

theorem has_and {s id : Int} (hs : isSet s) (h0 : 0 ≤ id) : decide (bitsI .and .u16 s (bit id) = 0) = !has s id := by
  rw [and_bit hs h0]
  by_cases h1 : id < 16
  · have := bit_pos h1
    cases has s id <;> simp <;> omega
  · rw [bit_big (by omega), has_big hs (by omega)]; simp

theorem or_bit {s id : Int} (hs : isSet s) (h0 : 0 ≤ id) : bitsI .or .u16 s (bit id) = wth s id := by
  rw [or_nat hs (bit_set h0)]
  unfold wth
  by_cases h1 : id < 16
  · have hb := bit_nat h1
    have hb' : (bit id).toNat = 2 ^ id.toNat := by rw [hb]; exact Int.toNat_natCast _
    rw [hb']
    unfold has
    cases h : s.toNat.testBit id.toNat with
    | true =>
      simp only [if_true]
      have : s.toNat ||| 2 ^ id.toNat = s.toNat := by
        apply Nat.eq_of_testBit_eq
        intro j
        rw [Nat.testBit_or, Nat.testBit_two_pow]
        by_cases hj : id.toNat = j
        · subst hj; simp [h]
        · simp [hj]
      rw [this]; have := hs.1; omega
    | false =>
      simp only [Bool.false_eq_true, if_false]
      have hm : s.toNat < 2 ^ 16 := by have := hs.2; omega
      have hn : 2 ^ id.toNat < 2 ^ 16 := Nat.pow_lt_pow_right (by omega) (by omega)
      have hl := Nat.or_lt_two_pow hm hn
      have h3 : BitVec.ofNat 17 s.toNat + BitVec.ofNat 17 (2 ^ id.toNat) = BitVec.ofNat 17 s.toNat ||| BitVec.ofNat 17 (2 ^ id.toNat) := by
        refine BitVec.add_eq_or_of_and_eq_zero _ _ ?_
        apply BitVec.eq_of_toNat_eq
        rw [BitVec.toNat_and, BitVec.toNat_ofNat, BitVec.toNat_ofNat, Nat.mod_eq_of_lt (by omega), Nat.mod_eq_of_lt (by omega), and_two_pow, h]
        simp
      have h4 := congrArg BitVec.toNat h3
      rw [BitVec.toNat_add, BitVec.toNat_or, BitVec.toNat_ofNat, BitVec.toNat_ofNat, Nat.mod_eq_of_lt (by omega), Nat.mod_eq_of_lt (by omega), Nat.mod_eq_of_lt (by omega)] at h4
      rw [← h4, hb]
      have := hs.1
      omega
  · rw [bit_big (by omega), has_big hs (by omega)]
    have := hs.1
    simp only [Int.toNat_zero, Nat.or_zero, Bool.false_eq_true, if_false]
    omega

theorem andNot_bit {s id : Int} (hs : isSet s) (h0 : 0 ≤ id) : bitsI .andNot .u16 s (bit id) = wout s id := by
  rw [andNot_nat hs (bit_set h0)]
  have h := and_nat hs (bit_set h0)
  rw [and_bit hs h0] at h
  unfold wout
  have h1 := hs.1
  have h2 : s.toNat &&& (bit id).toNat ≤ s.toNat := Nat.and_le_left
  cases hh : has s id with
  | true => rw [hh] at h; simp only [if_true] at h ⊢; omega
  | false => rw [hh] at h; simp only [Bool.false_eq_true, if_false] at h ⊢; omega

theorem wth_set {s id : Int} (hs : isSet s) (h0 : 0 ≤ id) : isSet (wth s id) := by
  rw [← or_bit hs h0, or_nat hs (bit_set h0)]
  have h1 := hs.2; have h2 := (bit_set h0).2
  have := Nat.or_lt_two_pow (n := 16) (x := s.toNat) (y := (bit id).toNat) (by omega) (by omega)
  exact ⟨by omega, by omega⟩
theorem wout_set {s id : Int} (hs : isSet s) (h0 : 0 ≤ id) : isSet (wout s id) := by
  rw [← andNot_bit hs h0, andNot_nat hs (bit_set h0)]
  have h1 := hs.2; have h2 := hs.1
  exact ⟨by omega, by omega⟩

theorem has_div {s id : Int} (h0 : 0 ≤ s) (h1 : id < 16) : has s id = decide (s / bit id % 2 = 1) := by
  unfold has
  rw [Nat.testBit_eq_decide_div_mod_eq, bit_nat h1]
  obtain ⟨m, rfl⟩ := Int.eq_ofNat_of_zero_le h0
  simp only [Int.toNat_natCast]
  congr 1
  rw [eq_iff_iff]
  constructor
  · intro h; exact_mod_cast h
  · intro h; exact_mod_cast h

theorem testBit_wth {s id : Int} (hs : isSet s) (h0 : 0 ≤ id) (h1 : id < 16) (j : Nat) : (wth s id).toNat.testBit j = (s.toNat.testBit j || decide (id.toNat = j)) := by
  rw [← or_bit hs h0, or_nat hs (bit_set h0)]
  simp only [Int.toNat_natCast]
  rw [Nat.testBit_or, bit_nat h1]
  simp only [Int.toNat_natCast]
  rw [Nat.testBit_two_pow]

theorem testBit_wout {s id : Int} (hs : isSet s) (h0 : 0 ≤ id) (h1 : id < 16) (j : Nat) : (wout s id).toNat.testBit j = (s.toNat.testBit j && !decide (id.toNat = j)) := by
  have e : s.toNat = (wout s id).toNat ^^^ (if has s id then 2 ^ id.toNat else 0) := by
    have hw := wout_set hs h0
    have key : wth (wout s id) id = wth s id := by
      unfold wth wout
      cases hh : has s id with
      | false => simp [hh]
      | true =>
        simp only [if_true]
        by_cases h2 : has (s - bit id) id = true
        · exfalso
          have hb := bit_pos h1
          rw [has_div (by have := (wout_set hs h0).1; unfold wout at this; rw [hh] at this; simpa using this) h1, decide_eq_true_iff] at h2
          rw [has_div hs.1 h1, decide_eq_true_iff] at hh
          have : (s - bit id) / bit id = s / bit id - 1 := by
            rw [show s - bit id = s + (-1) * bit id from by omega, Int.add_mul_ediv_right _ _ (by omega)]; omega
          rw [this] at h2
          omega
        · rw [if_neg h2]; omega
    apply Nat.eq_of_testBit_eq
    intro k
    rw [Nat.testBit_xor]
    have t1 := testBit_wth hs h0 h1 k
    have t2 := testBit_wth hw h0 h1 k
    rw [key] at t2
    rw [t1] at t2
    by_cases hk : id.toNat = k
    · subst hk
      have h3 : (wout s id).toNat.testBit id.toNat = false := by
        cases hh : has s id with
        | false => unfold wout; rw [hh]; exact hh
        | true =>
          cases h4 : (wout s id).toNat.testBit id.toNat with
          | false => rfl
          | true =>
            exfalso
            have : wth (wout s id) id = wout s id := by unfold wth; rw [show has (wout s id) id = true from h4]; rfl
            rw [this] at key
            have e1 : wth s id = s := by unfold wth; rw [hh]; rfl
            have e2 : wout s id = s - bit id := by unfold wout; rw [hh]; rfl
            have := bit_pos h1
            omega
      rw [h3]
      unfold has
      cases h5 : s.toNat.testBit id.toNat <;> simp [Nat.testBit_two_pow]
    · simp only [hk, decide_false, Bool.or_false] at t2
      rw [t2]
      cases hh : has s id <;> simp [hk, Nat.testBit_two_pow]
  have h2 : (wout s id).toNat = s.toNat ^^^ (if has s id then 2 ^ id.toNat else 0) := by
    rw [e, Nat.xor_assoc, Nat.xor_self, Nat.xor_zero]
  rw [h2, Nat.testBit_xor]
  by_cases hj : id.toNat = j
  · subst hj
    unfold has
    cases s.toNat.testBit id.toNat <;> simp [Nat.testBit_two_pow]
  · cases has s id <;> simp [hj, Nat.testBit_two_pow]

theorem mem_members {s i : Int} : i ∈ members s ↔ 0 ≤ i ∧ i < 16 ∧ has s i = true := by
  unfold members has
  simp only [List.mem_map, List.mem_filter, List.mem_range]
  constructor
  · rintro ⟨n, ⟨h1, h2⟩, rfl⟩; exact ⟨Int.natCast_nonneg n, Int.ofNat_lt.2 h1, h2⟩
  · rintro ⟨h1, h2, h3⟩; exact ⟨i.toNat, ⟨by omega, h3⟩, Int.toNat_of_nonneg h1⟩

theorem set_ext {a b : Int} (ha : isSet a) (hb : isSet b) (h : ∀ i : Int, 0 ≤ i → i < 16 → has a i = has b i) : a = b := by
  have : a.toNat = b.toNat := by
    apply Nat.eq_of_testBit_eq
    intro i
    by_cases hi : i < 16
    · have := h (i : Int) (by omega) (by omega)
      simpa [has] using this
    · have e : ∀ z : Int, isSet z → z.toNat.testBit i = false := by
        intro z hz
        refine Nat.testBit_lt_two_pow ?_
        have : 2 ^ 16 ≤ 2 ^ i := Nat.pow_le_pow_right (by omega) (by omega)
        have := hz.2
        omega
      rw [e a ha, e b hb]
  have := ha.1; have := hb.1
  omega

theorem has_zero (i : Int) : has 0 i = false := by simp [has]
theorem zero_set : isSet 0 := ⟨by omega, by omega⟩
theorem has_wout {s id j : Int} (hs : isSet s) (h0 : 0 ≤ id) (h1 : id < 16) (hj : 0 ≤ j) : has (wout s id) j = (has s j && !decide (j = id)) := by
  have := testBit_wout hs h0 h1 j.toNat
  unfold has
  rw [this]
  by_cases h : j = id
  · subst h; simp
  · rw [decide_eq_false h, decide_eq_false (by omega)]
theorem has_wth {s id j : Int} (hs : isSet s) (h0 : 0 ≤ id) (h1 : id < 16) (hj : 0 ≤ j) : has (wth s id) j = (has s j || decide (j = id)) := by
  have := testBit_wth hs h0 h1 j.toNat
  unfold has
  rw [this]
  by_cases h : j = id
  · subst h; simp
  · rw [decide_eq_false h, decide_eq_false (by omega)]

theorem members_nodup (s : Int) : (members s).Nodup := by
  unfold members
  refine List.Pairwise.map _ (fun a b hab h => hab ?_) (List.Pairwise.filter _ List.nodup_range)
  exact Int.ofNat.inj h

/-- the last member. -/
theorem size_one {s id : Int} (hs : isSet s) (h0 : 0 ≤ id) (h1 : id < 16) (hh : has s id = true) : size s = 1 ↔ wout s id = 0 := by
  have hm : id ∈ members s := mem_members.2 ⟨h0, h1, hh⟩
  constructor
  · intro h
    refine set_ext (wout_set hs h0) zero_set fun i hi hi' => ?_
    rw [has_wout hs h0 h1 hi, has_zero]
    have hl : (members s).length = 1 := by unfold size at h; omega
    obtain ⟨x, hx⟩ := List.length_eq_one_iff.1 hl
    rw [hx, List.mem_singleton] at hm
    subst hm
    cases hb : has s i with
    | false => rfl
    | true =>
      have : i ∈ members s := mem_members.2 ⟨hi, hi', hb⟩
      rw [hx, List.mem_singleton] at this
      simp [this]
  · intro h
    have key : ∀ i ∈ members s, i = id := by
      intro i hi
      obtain ⟨a, b, c⟩ := mem_members.1 hi
      have := has_wout hs h0 h1 a
      rw [h, has_zero, c] at this
      simpa using this.symm
    have hn := members_nodup s
    unfold size
    match hl : members s, hm, key, hn with
    | [x], _, _, _ => rfl
    | x :: y :: l, _, key, hn =>
      have e1 := key x (by simp)
      have e2 := key y (by simp)
      rw [List.nodup_cons] at hn
      exact absurd (by simp [e1, e2] : x ∈ y :: l) hn.1
end GoX.M
/- The seat: its tables, and that they are true. -/
set_option autoImplicit false
set_option maxRecDepth 100000
namespace GoX
open Go Go.Proofs

noncomputable def glob0 : List V := [.ar (.int .u8) 32 [0, 1, 28, 2, 29, 14, 24, 3, 30, 22, 20, 15, 25, 17, 4, 8, 31, 27, 13, 23, 21, 19, 16, 7, 26, 12, 18, 6, 11, 5, 10, 9]]
noncomputable def etyTab : List (Nat × Ty) := [(2, (.int .i64)), (3, (.int .i64)), (5, (.int .u8)), (6, (.int .u8)), (9, .str), (10, .str), (11, .str), (12, (.int .u64)), (21, (.int .i32)), (22, (.int .u16)), (23, (.int .u16)), (25, .roll), (30, .roll), (36, (.int .i64)), (40, .change), (41, .change), (58, (.int .u64)), (67, (.int .i64)), (69, (.int .u64)), (91, (.int .u32)), (105, (.int .u8)), (106, (.int .u8)), (108, (.int .i32)), (109, (.int .i32))]
noncomputable def zeroTab : List (Nat × List V) := [(5, [.i .u8 0]),
  (25, [.i .i64 0, .i .u16 0]),
  (30, [.i .i64 0, .i .u16 0]),
  (40, [.b false, .i .u8 0]),
  (41, [.b false, .i .u8 0]),
  (77, [.s [], .s [], .ni]),
  (79, [.ar (.int .u8) 24 (List.replicate 24 (0 : Int))]),
  (87, [.s []]),
  (90, [.ar (.int .u64) 20 (List.replicate 20 (0 : Int))]),
  (92, [.ar (.int .u8) 65 (List.replicate 65 (0 : Int))]),
  (96, [.ar (.int .u8) 32 (List.replicate 32 (0 : Int))]),
  (97, [.ar (.int .u8) 64 (List.replicate 64 (0 : Int))])]
noncomputable def S1 (boxi : Bool) : Setting := ⟨Tryd.prog, fun t => lk etyTab t, fun t => lk zeroTab t, fun t => false, boxi, [(67, .i64)]⟩
theorem S1_ok (b : Bool) : (S1 b).Ok := by
  have key : ∀ p ∈ zeroTab, zeroOk Tryd.prog p.1 p.2 := by
    unfold zeroTab
    repeat (refine List.forall_mem_cons.2 ⟨⟨_, _, rfl, rfl, rfl⟩, ?_⟩)
    intro p h; cases h
  exact ⟨fun t cs h => key (t, cs) (lk_mem h)⟩
theorem exS : ∃ s : Setting, s = S1 false := ⟨_, rfl⟩
/-- the program, out of sight. -/
noncomputable def S : Setting := Classical.choose exS
theorem S_eq : S = S1 false := Classical.choose_spec exS
theorem P_eq (b : Bool) : (S1 b).P = S.P := by rw [S_eq]; rfl
theorem mix : Tryd.prog.follows .mixedOrders = true := by rfl
structure Fits (S' : Setting) : Prop where
  p : S'.P = S.P
  ok : S'.Ok
  mix : S'.P.follows .mixedOrders = true
theorem Fits.run {S' : Setting} (hS : Fits S') (m : Nat) {n : Nat} {Q : XE → St → Prop} {k : List KI} {s : St} (h : XK S' n Q m k s) : VK S' n Q k s := XK_sound hS.ok hS.mix m k s h
theorem Fits.sim {S' : Setting} (hS : Fits S') {f : FuncId} {args : List V} {h : List (Nat × XObj)} {wr : List Nat} {r : XRet} {h' : List (Nat × XObj)} (hs : Sim S.P f args h wr r h') : Sim S'.P f args h wr r h' := hS.p ▸ hs
/-- a function's code: what is shown of it holds of its calls. -/
def Run (f : Nat) (xc : XC) (n : Nat) (rs : List XRes) : Prop := ∀ {args : List V} {h : List (Nat × XObj)} {wr : List Nat} {r : XRet} {h' : List (Nat × XObj)} (np : Nat) (q : Nat → Bool) (m : Nat), args.length ≤ n →
  (∀ S' : Setting, Fits S' → XK S' n (fnQ rs np q r h') m [.c xc] ⟨args0 args 0, h⟩) → (∀ id, id < 32 → wr.contains id = false → lk h' id = lk h id) → Sim S.P f args h wr r h'
theorem run_of {f : Nat} {fn : Func} {xc : XC} {n : Nat} {rs : List XRes} (b : Bool) (hf : Tryd.prog.funcs[f]? = some fn) (hn : (fn.name == "runtime.NumGoroutine") = false) (hc : fn.body.bind (comp (S1 b)) = some xc) (hres : compRes (S1 b) fn.results = some rs) (hnt : fn.ntmps = n) : Run f xc n rs := by
  intro args h wr r h' np q m hlen hv same
  rw [← P_eq b]
  exact Sim_of' (S1_ok _) mix hf hn hc hres hnt hlen np q m (hv _ ⟨P_eq _, S1_ok _, mix⟩) same
end GoX
/- Functions in abstract code. -/
set_option autoImplicit false
set_option maxRecDepth 100000
namespace GoX
open Go Go.Proofs
/-- chantry/chantrylaw11.RollPaths -/
noncomputable def xc3 : XC :=
  .seq (.ops false [⟨some 2, .box (.t 0), none, []⟩,
    ⟨some 4, .mv (.v (.b false)), none, []⟩])
  (.seq (.seq (.ops false [⟨some 8, .call (.v (.fn 6 [])) [], none, []⟩,
    ⟨some 9, .un .not (.t 8), none, []⟩])
  (.cond (.t 9) (.seq (.ops false [⟨some 4, .mv (.v (.b false)), none, []⟩])
  (.ret)) (.skip)))
  (.seq (.seq (.ops false [⟨some 10, .mv (.t 1), none, []⟩,
    ⟨some 11, .len false (.t 10), none, []⟩,
    ⟨some 12, .bin .gtr (.t 11) (.v (.i .i64 100)), none, []⟩])
  (.cond (.t 12) (.seq (.ops false [⟨some 4, .mv (.v (.b true)), none, []⟩])
  (.ret)) (.skip)))
  (.seq (.ops true [⟨some 13, .ld (.t 2) 2 true, none, []⟩,
    ⟨some 14, .mv (.t 1), none, []⟩,
    ⟨some 15, .call (.v (.fn 8 [])) [.t 14], none, [1]⟩,
    ⟨some 16, .call (.v (.fn 7 [])) [.t 13, .t 15], none, [0, 2, 1]⟩,
    ⟨some 17, .ld (.t 2) 2 true, none, []⟩,
    ⟨some 18, .mv (.t 1), none, []⟩,
    ⟨some 19, .call (.v (.fn 9 [])) [.t 17, .t 18], none, [4, 5, 3, 0, 2, 1]⟩,
    ⟨some 5, .mv (.t 16), none, [3, 0, 2, 1, 6, 4, 5]⟩,
    ⟨some 6, .mv (.t 19), none, [6, 4, 5, 3, 0, 2, 1, 7]⟩])
  (.seq (.seq (.ops false [⟨some 20, .mv (.t 5), none, []⟩,
    ⟨some 21, .len false (.t 20), none, []⟩,
    ⟨some 22, .mv (.t 6), none, []⟩,
    ⟨some 23, .len false (.t 22), none, []⟩,
    ⟨some 24, .bin .neq (.t 21) (.t 23), none, []⟩])
  (.cond (.t 24) (.seq (.ops false [⟨some 4, .mv (.v (.b false)), none, []⟩])
  (.ret)) (.skip)))
  (.seq (.seq (.ops false [⟨some 25, .mv (.t 5), none, []⟩,
    ⟨some 26, .len false (.t 25), none, []⟩,
    ⟨some 27, .mv (.v (.i .i64 0)), none, []⟩])
  (.block 0 (.loop (.seq (.ops false [⟨some 28, .bin .lss (.t 27) (.t 26), none, []⟩])
  (.seq (.cond (.t 28) (.skip) (.exit 0))
  (.seq (.block 1 (.seq (.ops false [⟨some 29, .mv (.t 27), none, []⟩,
    ⟨some 7, .mv (.t 29), none, []⟩])
  (.seq (.ops true [⟨some 30, .mv (.t 5), none, []⟩,
    ⟨some 31, .mv (.t 7), none, []⟩,
    ⟨some 32, .ia .roll (.t 30) (.t 31), none, [0, 1]⟩,
    ⟨some 33, .ld (.t 32) 2 true, none, [2, 0, 1]⟩,
    ⟨some 34, .mv (.t 6), none, []⟩,
    ⟨some 35, .mv (.t 7), none, []⟩,
    ⟨some 36, .ia .roll (.t 34) (.t 35), none, [4, 5]⟩,
    ⟨some 37, .ld (.t 36) 2 true, none, [6, 4, 5]⟩,
    ⟨some 38, .eqs true [.i .i64, .i .u16] (.t 33) (.t 37), none, [3, 2, 0, 1, 7, 6, 4, 5]⟩])
  (.cond (.t 38) (.seq (.ops false [⟨some 4, .mv (.v (.b false)), none, []⟩])
  (.ret)) (.skip)))))
  (.ops false [⟨some 39, .bin .add (.t 27) (.v (.i .i64 1)), none, []⟩,
    ⟨some 27, .mv (.t 39), none, []⟩])))))))
  (.seq (.ops false [⟨some 4, .mv (.v (.b true)), none, []⟩])
  (.ret)))))))
theorem run3 : Run 3 xc3 40 [.t 4] := run_of false Tryd.func3 rfl (by kernel_rfl) rfl rfl

/-- chantry/chantrylaw11.RollBack -/
noncomputable def xc4 : XC :=
  .seq (.ops false [⟨some 2, .box (.t 0), none, []⟩,
    ⟨some 4, .mv (.v (.b false)), none, []⟩])
  (.seq (.seq (.ops false [⟨some 11, .call (.v (.fn 6 [])) [], none, []⟩,
    ⟨some 12, .un .not (.t 11), none, []⟩])
  (.cond (.t 12) (.seq (.ops false [⟨some 4, .mv (.v (.b false)), none, []⟩])
  (.ret)) (.skip)))
  (.seq (.seq (.ops false [⟨some 13, .mv (.t 1), none, []⟩,
    ⟨some 14, .len false (.t 13), none, []⟩,
    ⟨some 15, .bin .gtr (.t 14) (.v (.i .i64 100)), none, []⟩,
    ⟨some 16, .mv (.t 15), none, []⟩,
    ⟨some 17, .mv (.t 1), some (16, false), []⟩,
    ⟨some 18, .len false (.t 17), some (16, false), []⟩,
    ⟨some 19, .bin .eql (.t 18) (.v (.i .i64 0)), some (16, false), []⟩,
    ⟨some 20, .pick (.t 16) (.v (.b true)) (.t 19), none, []⟩])
  (.cond (.t 20) (.seq (.ops false [⟨some 4, .mv (.v (.b true)), none, []⟩])
  (.ret)) (.skip)))
  (.seq (.ops true [⟨some 22, .ld (.t 2) 2 true, none, []⟩,
    ⟨some 23, .mv (.t 1), none, []⟩,
    ⟨some 24, .ia .change (.t 23) (.v (.i .i64 0)), none, [1]⟩,
    ⟨some 25, .ld (.t 24) 2 true, none, [2, 1]⟩,
    ⟨some 26, .call (.v (.fn 10 [])) [.t 22, .t 25], none, [0, 3, 2, 1]⟩,
    ⟨some 21, .mv (.t 26), none, [4, 0, 3, 2, 1]⟩,
    ⟨some 27, .ext (.t 21) 0, none, [5, 4, 0, 3, 2, 1]⟩,
    ⟨some 28, .ext (.t 21) 1, none, [5, 4, 0, 3, 2, 1]⟩,
    ⟨some 5, .new [.i .i64 0, .i .u16 0], none, []⟩,
    ⟨none, .st (.t 5) (.t 27) 2, none, [8, 6, 5, 4, 0, 3, 2, 1]⟩,
    ⟨some 6, .mv (.t 28), none, [7, 5, 4, 0, 3, 2, 1, 9, 8, 6]⟩])
  (.seq (.seq (.ops false [⟨some 29, .mv (.t 6), none, []⟩,
    ⟨some 30, .bin .eql (.t 29) (.v (.i .i64 0)), none, []⟩])
  (.cond (.t 30) (.seq (.ops true [⟨some 32, .ld (.t 5) 2 true, none, []⟩,
    ⟨some 33, .mv (.t 1), none, []⟩,
    ⟨some 34, .ia .change (.t 33) (.v (.i .i64 0)), none, [1]⟩,
    ⟨some 35, .fa (.t 34) 0, none, [2, 1]⟩,
    ⟨some 36, .ld (.t 35) 1 false, none, [3, 2, 1]⟩,
    ⟨some 37, .un .not (.t 36), none, [4, 3, 2, 1]⟩,
    ⟨some 38, .mv (.t 1), none, []⟩,
    ⟨some 39, .ia .change (.t 38) (.v (.i .i64 0)), none, [6]⟩,
    ⟨some 40, .fa (.t 39) 1, none, [7, 6]⟩,
    ⟨some 41, .ld (.t 40) 1 false, none, [8, 7, 6]⟩,
    ⟨some 42, .bld [.b false, .i .u8 0] [(0, 1, .t 37), (1, 1, .t 41)], none, [5, 4, 3, 2, 1, 9, 8, 7, 6]⟩,
    ⟨some 43, .call (.v (.fn 10 [])) [.t 32, .t 42], none, [0, 10, 5, 4, 3, 2, 1, 9, 8, 7, 6]⟩,
    ⟨some 31, .mv (.t 43), none, [11, 0, 10, 5, 4, 3, 2, 1, 9, 8, 7, 6]⟩,
    ⟨some 44, .ext (.t 31) 0, none, [12, 11, 0, 10, 5, 4, 3, 2, 1, 9, 8, 7, 6]⟩,
    ⟨some 45, .ext (.t 31) 1, none, [12, 11, 0, 10, 5, 4, 3, 2, 1, 9, 8, 7, 6]⟩,
    ⟨some 7, .new [.i .i64 0, .i .u16 0], none, []⟩,
    ⟨none, .st (.t 7) (.t 44) 2, none, [15, 13, 12, 11, 0, 10, 5, 4, 3, 2, 1, 9, 8, 7, 6]⟩,
    ⟨some 8, .mv (.t 45), none, [14, 12, 11, 0, 10, 5, 4, 3, 2, 1, 9, 8, 7, 6, 16, 15, 13]⟩])
  (.seq (.ops false [⟨some 46, .mv (.t 8), none, []⟩,
    ⟨some 47, .bin .neq (.t 46) (.v (.i .i64 0)), none, []⟩,
    ⟨some 48, .mv (.t 47), none, []⟩,
    ⟨some 49, .fa (.t 2) 0, some (48, true), []⟩,
    ⟨some 50, .ld (.t 49) 1 false, some (48, true), []⟩,
    ⟨some 51, .bin .lss (.t 50) (.v (.i .i64 999)), some (48, true), []⟩,
    ⟨some 52, .pick (.t 48) (.t 51) (.v (.b false)), none, []⟩,
    ⟨some 53, .mv (.t 52), none, []⟩,
    ⟨some 54, .mv (.t 8), some (53, false), []⟩,
    ⟨some 55, .bin .eql (.t 54) (.v (.i .i64 0)), some (53, false), []⟩,
    ⟨some 56, .mv (.t 55), some (53, false), []⟩,
    ⟨some 57, .fa (.t 7) 1, some (56, true), []⟩,
    ⟨some 58, .ld (.t 57) 1 false, some (56, true), []⟩,
    ⟨some 59, .fa (.t 2) 1, some (56, true), []⟩,
    ⟨some 60, .ld (.t 59) 1 false, some (56, true), []⟩,
    ⟨some 61, .bin .neq (.t 58) (.t 60), some (56, true), []⟩,
    ⟨some 62, .mv (.t 61), some (56, true), []⟩,
    ⟨some 63, .fa (.t 7) 0, some (62, false), []⟩,
    ⟨some 64, .ld (.t 63) 1 false, some (62, false), []⟩,
    ⟨some 65, .fa (.t 2) 0, some (62, false), []⟩,
    ⟨some 66, .ld (.t 65) 1 false, some (62, false), []⟩,
    ⟨some 67, .bin .add (.t 66) (.v (.i .i64 2)), some (62, false), []⟩,
    ⟨some 68, .bin .neq (.t 64) (.t 67), some (62, false), []⟩,
    ⟨some 69, .pick (.t 62) (.v (.b true)) (.t 68), some (56, true), []⟩,
    ⟨some 70, .pick (.t 56) (.t 69) (.v (.b false)), some (53, false), []⟩,
    ⟨some 71, .pick (.t 53) (.v (.b true)) (.t 70), none, []⟩])
  (.cond (.t 71) (.seq (.ops false [⟨some 4, .mv (.v (.b false)), none, []⟩])
  (.ret)) (.skip)))) (.skip)))
  (.seq (.ops true [⟨some 72, .ld (.t 2) 2 true, none, []⟩,
    ⟨some 73, .mv (.t 1), none, []⟩,
    ⟨some 74, .call (.v (.fn 8 [])) [.t 73], none, [1]⟩,
    ⟨some 75, .call (.v (.fn 7 [])) [.t 72, .t 74], none, [0, 2, 1]⟩,
    ⟨some 9, .mv (.t 75), none, [3, 0, 2, 1]⟩])
  (.seq (.seq (.ops false [⟨some 10, .mv (.v (.i .i64 1)), none, []⟩])
  (.block 0 (.loop (.seq (.seq (.ops false [⟨some 76, .mv (.t 10), none, []⟩,
    ⟨some 77, .mv (.t 9), none, []⟩,
    ⟨some 78, .len false (.t 77), none, []⟩,
    ⟨some 79, .bin .lss (.t 76) (.t 78), none, []⟩])
  (.cond (.t 79) (.skip) (.exit 0)))
  (.seq (.block 1 (.seq (.ops true [⟨some 82, .mv (.t 9), none, []⟩,
    ⟨some 83, .mv (.t 10), none, []⟩,
    ⟨some 84, .ia .roll (.t 82) (.t 83), none, [0, 1]⟩,
    ⟨some 85, .fa (.t 84) 0, none, [2, 0, 1]⟩,
    ⟨some 86, .ld (.t 85) 1 false, none, [3, 2, 0, 1]⟩,
    ⟨some 87, .mv (.t 9), none, []⟩,
    ⟨some 88, .mv (.t 10), none, []⟩,
    ⟨some 89, .bin .sub (.t 88) (.v (.i .i64 1)), none, [6]⟩,
    ⟨some 90, .ia .roll (.t 87) (.t 89), none, [5, 7, 6]⟩,
    ⟨some 91, .fa (.t 90) 0, none, [8, 5, 7, 6]⟩,
    ⟨some 92, .ld (.t 91) 1 false, none, [9, 8, 5, 7, 6]⟩,
    ⟨some 93, .bin .add (.t 92) (.v (.i .i64 1)), none, [10, 9, 8, 5, 7, 6]⟩,
    ⟨some 94, .bin .neq (.t 86) (.t 93), none, [4, 3, 2, 0, 1, 11, 10, 9, 8, 5, 7, 6]⟩,
    ⟨some 95, .mv (.t 94), none, [12, 4, 3, 2, 0, 1, 11, 10, 9, 8, 5, 7, 6]⟩,
    ⟨some 96, .mv (.t 9), some (95, false), [13, 12, 4, 3, 2, 0, 1, 11, 10, 9, 8, 5, 7, 6]⟩,
    ⟨some 97, .mv (.t 10), some (95, false), [13, 12, 4, 3, 2, 0, 1, 11, 10, 9, 8, 5, 7, 6]⟩,
    ⟨some 98, .ia .roll (.t 96) (.t 97), some (95, false), [14, 13, 12, 4, 3, 2, 0, 1, 11, 10, 9, 8, 5, 7, 6, 15]⟩,
    ⟨some 99, .fa (.t 98) 1, some (95, false), [16, 14, 13, 12, 4, 3, 2, 0, 1, 11, 10, 9, 8, 5, 7, 6, 15]⟩,
    ⟨some 100, .ld (.t 99) 1 false, some (95, false), [17, 16, 14, 13, 12, 4, 3, 2, 0, 1, 11, 10, 9, 8, 5, 7, 6, 15]⟩,
    ⟨some 101, .mv (.t 9), some (95, false), [13, 12, 4, 3, 2, 0, 1, 11, 10, 9, 8, 5, 7, 6]⟩,
    ⟨some 102, .mv (.t 10), some (95, false), [13, 12, 4, 3, 2, 0, 1, 11, 10, 9, 8, 5, 7, 6]⟩,
    ⟨some 103, .bin .sub (.t 102) (.v (.i .i64 1)), some (95, false), [20, 13, 12, 4, 3, 2, 0, 1, 11, 10, 9, 8, 5, 7, 6]⟩,
    ⟨some 104, .ia .roll (.t 101) (.t 103), some (95, false), [19, 13, 12, 4, 3, 2, 0, 1, 11, 10, 9, 8, 5, 7, 6, 21, 20]⟩,
    ⟨some 105, .fa (.t 104) 1, some (95, false), [22, 19, 13, 12, 4, 3, 2, 0, 1, 11, 10, 9, 8, 5, 7, 6, 21, 20]⟩,
    ⟨some 106, .ld (.t 105) 1 false, some (95, false), [23, 22, 19, 13, 12, 4, 3, 2, 0, 1, 11, 10, 9, 8, 5, 7, 6, 21, 20]⟩,
    ⟨some 107, .bin .xor (.t 100) (.t 106), some (95, false), [18, 17, 16, 14, 13, 12, 4, 3, 2, 0, 1, 11, 10, 9, 8, 5, 7, 6, 15, 24, 23, 22, 19, 21, 20]⟩,
    ⟨some 108, .call (.v (.fn 11 [])) [.t 107], some (95, false), [25, 18, 17, 16, 14, 13, 12, 4, 3, 2, 0, 1, 11, 10, 9, 8, 5, 7, 6, 15, 24, 23, 22, 19, 21, 20]⟩,
    ⟨some 109, .bin .neq (.t 108) (.v (.i .i64 1)), some (95, false), [26, 25, 18, 17, 16, 14, 13, 12, 4, 3, 2, 0, 1, 11, 10, 9, 8, 5, 7, 6, 15, 24, 23, 22, 19, 21, 20]⟩,
    ⟨some 110, .pick (.t 95) (.v (.b true)) (.t 109), none, [13, 12, 4, 3, 2, 0, 1, 11, 10, 9, 8, 5, 7, 6, 27, 26, 25, 18, 17, 16, 14, 15, 24, 23, 22, 19, 21, 20]⟩,
    ⟨some 111, .mv (.t 110), none, [28, 13, 12, 4, 3, 2, 0, 1, 11, 10, 9, 8, 5, 7, 6, 27, 26, 25, 18, 17, 16, 14, 15, 24, 23, 22, 19, 21, 20]⟩,
    ⟨some 112, .mv (.t 9), some (111, false), [29, 28, 13, 12, 4, 3, 2, 0, 1, 11, 10, 9, 8, 5, 7, 6, 27, 26, 25, 18, 17, 16, 14, 15, 24, 23, 22, 19, 21, 20]⟩,
    ⟨some 113, .mv (.t 10), some (111, false), [29, 28, 13, 12, 4, 3, 2, 0, 1, 11, 10, 9, 8, 5, 7, 6, 27, 26, 25, 18, 17, 16, 14, 15, 24, 23, 22, 19, 21, 20]⟩,
    ⟨some 114, .ia .roll (.t 112) (.t 113), some (111, false), [30, 29, 28, 13, 12, 4, 3, 2, 0, 1, 11, 10, 9, 8, 5, 7, 6, 27, 26, 25, 18, 17, 16, 14, 15, 24, 23, 22, 19, 21, 20, 31]⟩,
    ⟨some 115, .fa (.t 114) 1, some (111, false), [32, 30, 29, 28, 13, 12, 4, 3, 2, 0, 1, 11, 10, 9, 8, 5, 7, 6, 27, 26, 25, 18, 17, 16, 14, 15, 24, 23, 22, 19, 21, 20, 31]⟩,
    ⟨some 116, .ld (.t 115) 1 false, some (111, false), [33, 32, 30, 29, 28, 13, 12, 4, 3, 2, 0, 1, 11, 10, 9, 8, 5, 7, 6, 27, 26, 25, 18, 17, 16, 14, 15, 24, 23, 22, 19, 21, 20, 31]⟩,
    ⟨some 117, .bin .eql (.t 116) (.v (.i .u16 0)), some (111, false), [34, 33, 32, 30, 29, 28, 13, 12, 4, 3, 2, 0, 1, 11, 10, 9, 8, 5, 7, 6, 27, 26, 25, 18, 17, 16, 14, 15, 24, 23, 22, 19, 21, 20, 31]⟩,
    ⟨some 118, .pick (.t 111) (.v (.b true)) (.t 117), none, [29, 28, 13, 12, 4, 3, 2, 0, 1, 11, 10, 9, 8, 5, 7, 6, 27, 26, 25, 18, 17, 16, 14, 15, 24, 23, 22, 19, 21, 20, 35, 34, 33, 32, 30, 31]⟩])
  (.cond (.t 118) (.seq (.ops false [⟨some 4, .mv (.v (.b false)), none, []⟩])
  (.ret)) (.skip))))
  (.ops false [⟨some 80, .mv (.t 10), none, []⟩,
    ⟨some 81, .bin .add (.t 80) (.v (.i .i64 1)), none, []⟩,
    ⟨some 10, .mv (.t 81), none, []⟩]))))))
  (.seq (.ops false [⟨some 119, .mv (.t 9), none, []⟩,
    ⟨some 120, .len false (.t 119), none, []⟩,
    ⟨some 121, .bin .eql (.t 120) (.v (.i .i64 0)), none, []⟩,
    ⟨some 122, .ld (.t 2) 2 true, none, []⟩,
    ⟨some 123, .call (.v (.fn 12 [])) [.t 122], none, []⟩,
    ⟨some 124, .un .not (.t 123), none, []⟩,
    ⟨some 125, .eqk .b false (.t 121) (.t 124), none, []⟩,
    ⟨some 126, .mv (.t 125), none, []⟩,
    ⟨some 127, .mv (.t 9), some (126, true), []⟩,
    ⟨some 128, .len false (.t 127), some (126, true), []⟩,
    ⟨some 129, .mv (.t 1), some (126, true), []⟩,
    ⟨some 130, .len false (.t 129), some (126, true), []⟩,
    ⟨some 131, .bin .add (.t 130) (.v (.i .i64 1)), some (126, true), []⟩,
    ⟨some 132, .bin .leq (.t 128) (.t 131), some (126, true), []⟩,
    ⟨some 133, .pick (.t 126) (.t 132) (.v (.b false)), none, []⟩,
    ⟨some 4, .mv (.t 133), none, []⟩])
  (.ret))))))))
theorem run4 : Run 4 xc4 134 [.t 4] := run_of false Tryd.func4 rfl (by kernel_rfl) rfl rfl

/-- chantry/chantrylaw11.RollEnds -/
noncomputable def xc5 : XC :=
  .seq (.ops false [⟨some 3, .box (.t 0), none, []⟩,
    ⟨some 6, .mv (.v (.b false)), none, []⟩])
  (.seq (.seq (.ops false [⟨some 14, .call (.v (.fn 6 [])) [], none, []⟩,
    ⟨some 15, .un .not (.t 14), none, []⟩])
  (.cond (.t 15) (.seq (.ops false [⟨some 6, .mv (.v (.b false)), none, []⟩])
  (.ret)) (.skip)))
  (.seq (.seq (.ops false [⟨some 16, .mv (.t 1), none, []⟩,
    ⟨some 17, .len false (.t 16), none, []⟩,
    ⟨some 18, .bin .gtr (.t 17) (.v (.i .i64 100)), none, []⟩,
    ⟨some 19, .mv (.t 18), none, []⟩,
    ⟨some 20, .ld (.t 3) 2 true, some (19, false), []⟩,
    ⟨some 21, .call (.v (.fn 12 [])) [.t 20], some (19, false), []⟩,
    ⟨some 22, .un .not (.t 21), some (19, false), []⟩,
    ⟨some 23, .pick (.t 19) (.v (.b true)) (.t 22), none, []⟩])
  (.cond (.t 23) (.seq (.ops false [⟨some 6, .mv (.v (.b true)), none, []⟩])
  (.ret)) (.skip)))
  (.seq (.ops false [⟨some 24, .mv (.t 1), none, []⟩,
    ⟨some 25, .call (.v (.fn 8 [])) [.t 24], none, []⟩,
    ⟨some 7, .mv (.t 25), none, []⟩])
  (.seq (.ops false [⟨some 26, .mv (.t 2), none, []⟩,
    ⟨some 27, .ci .i64 (.t 26), none, []⟩,
    ⟨some 28, .mv (.t 7), none, []⟩,
    ⟨some 29, .len false (.t 28), none, []⟩,
    ⟨some 30, .bin .add (.t 29) (.v (.i .i64 1)), none, []⟩,
    ⟨some 31, .bin .rem (.t 27) (.t 30), none, []⟩,
    ⟨some 8, .mv (.t 31), none, []⟩])
  (.seq (.ops true [⟨some 32, .ld (.t 3) 2 true, none, []⟩,
    ⟨some 33, .mv (.t 7), none, []⟩,
    ⟨some 34, .call (.v (.fn 7 [])) [.t 32, .t 33], none, [0, 1]⟩,
    ⟨some 35, .ld (.t 3) 2 true, none, []⟩,
    ⟨some 36, .mv (.t 7), none, []⟩,
    ⟨some 37, .mv (.t 8), none, []⟩,
    ⟨some 38, .slo .change (.t 36) none (some (.t 37)), none, [4, 5]⟩,
    ⟨some 39, .call (.v (.fn 7 [])) [.t 35, .t 38], none, [3, 6, 4, 5, 2, 0, 1]⟩,
    ⟨some 9, .mv (.t 34), none, [2, 0, 1, 7, 3, 6, 4, 5]⟩,
    ⟨some 10, .mv (.t 39), none, [7, 3, 6, 4, 5, 2, 0, 1, 8]⟩])
  (.seq (.seq (.ops false [⟨some 40, .mv (.t 10), none, []⟩,
    ⟨some 41, .len false (.t 40), none, []⟩,
    ⟨some 42, .bin .eql (.t 41) (.v (.i .i64 0)), none, []⟩,
    ⟨some 43, .mv (.t 42), none, []⟩,
    ⟨some 44, .mv (.t 10), some (43, false), []⟩,
    ⟨some 45, .len false (.t 44), some (43, false), []⟩,
    ⟨some 46, .mv (.t 9), some (43, false), []⟩,
    ⟨some 47, .len false (.t 46), some (43, false), []⟩,
    ⟨some 48, .bin .gtr (.t 45) (.t 47), some (43, false), []⟩,
    ⟨some 49, .pick (.t 43) (.v (.b true)) (.t 48), none, []⟩,
    ⟨some 50, .mv (.t 49), none, []⟩,
    ⟨some 51, .mv (.t 10), some (50, false), []⟩,
    ⟨some 52, .len false (.t 51), some (50, false), []⟩,
    ⟨some 53, .mv (.t 9), some (50, false), []⟩,
    ⟨some 54, .len false (.t 53), some (50, false), []⟩,
    ⟨some 55, .mv (.t 8), some (50, false), []⟩,
    ⟨some 56, .bin .add (.t 55) (.v (.i .i64 1)), some (50, false), []⟩,
    ⟨some 57, .mn (.t 54) [.t 56], some (50, false), []⟩,
    ⟨some 58, .bin .neq (.t 52) (.t 57), some (50, false), []⟩,
    ⟨some 59, .pick (.t 50) (.v (.b true)) (.t 58), none, []⟩])
  (.cond (.t 59) (.seq (.ops false [⟨some 6, .mv (.v (.b false)), none, []⟩])
  (.ret)) (.skip)))
  (.seq (.seq (.ops false [⟨some 60, .mv (.t 10), none, []⟩,
    ⟨some 61, .len false (.t 60), none, []⟩,
    ⟨some 62, .mv (.v (.i .i64 0)), none, []⟩])
  (.block 0 (.loop (.seq (.ops false [⟨some 63, .bin .lss (.t 62) (.t 61), none, []⟩])
  (.seq (.cond (.t 63) (.skip) (.exit 0))
  (.seq (.block 1 (.seq (.ops false [⟨some 64, .mv (.t 62), none, []⟩,
    ⟨some 11, .mv (.t 64), none, []⟩])
  (.seq (.ops true [⟨some 65, .mv (.t 10), none, []⟩,
    ⟨some 66, .mv (.t 11), none, []⟩,
    ⟨some 67, .ia .roll (.t 65) (.t 66), none, [0, 1]⟩,
    ⟨some 68, .ld (.t 67) 2 true, none, [2, 0, 1]⟩,
    ⟨some 69, .mv (.t 9), none, []⟩,
    ⟨some 70, .mv (.t 11), none, []⟩,
    ⟨some 71, .ia .roll (.t 69) (.t 70), none, [4, 5]⟩,
    ⟨some 72, .ld (.t 71) 2 true, none, [6, 4, 5]⟩,
    ⟨some 73, .eqs true [.i .i64, .i .u16] (.t 68) (.t 72), none, [3, 2, 0, 1, 7, 6, 4, 5]⟩])
  (.cond (.t 73) (.seq (.ops false [⟨some 6, .mv (.v (.b false)), none, []⟩])
  (.ret)) (.skip)))))
  (.ops false [⟨some 74, .bin .add (.t 62) (.v (.i .i64 1)), none, []⟩,
    ⟨some 62, .mv (.t 74), none, []⟩])))))))
  (.seq (.seq (.ops false [⟨some 75, .mv (.t 9), none, []⟩,
    ⟨some 76, .len false (.t 75), none, []⟩,
    ⟨some 77, .mv (.t 7), none, []⟩,
    ⟨some 78, .len false (.t 77), none, []⟩,
    ⟨some 79, .bin .leq (.t 76) (.t 78), none, []⟩])
  (.cond (.t 79) (.seq (.ops true [⟨some 81, .mv (.t 9), none, []⟩,
    ⟨some 82, .mv (.t 9), none, []⟩,
    ⟨some 83, .len false (.t 82), none, [1]⟩,
    ⟨some 84, .bin .sub (.t 83) (.v (.i .i64 1)), none, [2, 1]⟩,
    ⟨some 85, .ia .roll (.t 81) (.t 84), none, [0, 3, 2, 1]⟩,
    ⟨some 86, .ld (.t 85) 2 true, none, [4, 0, 3, 2, 1]⟩,
    ⟨some 87, .mv (.t 7), none, []⟩,
    ⟨some 88, .mv (.t 9), none, []⟩,
    ⟨some 89, .len false (.t 88), none, [7]⟩,
    ⟨some 90, .bin .sub (.t 89) (.v (.i .i64 1)), none, [8, 7]⟩,
    ⟨some 91, .ia .change (.t 87) (.t 90), none, [6, 9, 8, 7]⟩,
    ⟨some 92, .ld (.t 91) 2 true, none, [10, 6, 9, 8, 7]⟩,
    ⟨some 93, .call (.v (.fn 10 [])) [.t 86, .t 92], none, [5, 4, 0, 3, 2, 1, 11, 10, 6, 9, 8, 7]⟩,
    ⟨some 80, .mv (.t 93), none, [12, 5, 4, 0, 3, 2, 1, 11, 10, 6, 9, 8, 7]⟩,
    ⟨some 94, .ext (.t 80) 0, none, [13, 12, 5, 4, 0, 3, 2, 1, 11, 10, 6, 9, 8, 7]⟩,
    ⟨some 95, .ext (.t 80) 1, none, [13, 12, 5, 4, 0, 3, 2, 1, 11, 10, 6, 9, 8, 7]⟩,
    ⟨some 12, .new [.i .i64 0, .i .u16 0], none, []⟩,
    ⟨none, .st (.t 12) (.t 94) 2, none, [16, 14, 13, 12, 5, 4, 0, 3, 2, 1, 11, 10, 6, 9, 8, 7]⟩,
    ⟨some 13, .mv (.t 95), none, [15, 13, 12, 5, 4, 0, 3, 2, 1, 11, 10, 6, 9, 8, 7, 17, 16, 14]⟩])
  (.seq (.ops false [⟨some 96, .mv (.t 13), none, []⟩,
    ⟨some 97, .bin .eql (.t 96) (.v (.i .i64 0)), none, []⟩])
  (.cond (.t 97) (.seq (.ops false [⟨some 6, .mv (.v (.b false)), none, []⟩])
  (.ret)) (.skip)))) (.skip)))
  (.seq (.ops false [⟨some 6, .mv (.v (.b true)), none, []⟩])
  (.ret))))))))))
theorem run5 : Run 5 xc5 98 [.t 6] := run_of false Tryd.func5 rfl (by kernel_rfl) rfl rfl

/-- chantry/chantrylaw11.alive -/
noncomputable def xc6 : XC :=
  .seq (.ops false [⟨some 0, .mv (.v (.b false)), none, []⟩])
  (.seq (.ops false [⟨some 8, .bld [.i .i64 0, .i .u16 0] [(1, 1, .v (.i .u16 3))], none, []⟩,
    ⟨some 9, .bld [.b false, .i .u8 0] [(0, 1, .v (.b true)), (1, 1, .v (.i .u8 3))], none, []⟩,
    ⟨some 10, .call (.v (.fn 10 [])) [.t 8, .t 9], none, []⟩,
    ⟨some 7, .mv (.t 10), none, []⟩,
    ⟨some 11, .ext (.t 7) 0, none, []⟩,
    ⟨some 12, .ext (.t 7) 1, none, []⟩,
    ⟨some 1, .new [.i .i64 0, .i .u16 0], none, []⟩,
    ⟨none, .st (.t 1) (.t 11) 2, none, []⟩,
    ⟨some 2, .mv (.t 12), none, []⟩])
  (.seq (.ops false [⟨some 14, .call (.v (.fn 13 [])) [.v (.s [45, 49, 53])], none, []⟩,
    ⟨some 13, .mv (.t 14), none, []⟩,
    ⟨some 15, .ext (.t 13) 0, none, []⟩,
    ⟨some 16, .ext (.t 13) 1, none, []⟩,
    ⟨some 3, .new [.b false, .i .u8 0], none, []⟩,
    ⟨none, .st (.t 3) (.t 15) 2, none, []⟩,
    ⟨some 4, .mv (.t 16), none, []⟩])
  (.seq (.ops false [⟨some 18, .call (.v (.fn 13 [])) [.v (.s [43, 48, 51])], none, []⟩,
    ⟨some 17, .mv (.t 18), none, []⟩,
    ⟨some 19, .ext (.t 17) 0, none, []⟩,
    ⟨some 20, .ext (.t 17) 1, none, []⟩,
    ⟨some 5, .new [.b false, .i .u8 0], none, []⟩,
    ⟨none, .st (.t 5) (.t 19) 2, none, []⟩,
    ⟨some 6, .mv (.t 20), none, []⟩])
  (.seq (.ops false [⟨some 21, .mv (.t 2), none, []⟩,
    ⟨some 22, .bin .eql (.t 21) (.v (.i .i64 0)), none, []⟩,
    ⟨some 23, .mv (.t 22), none, []⟩,
    ⟨some 24, .ld (.t 1) 2 true, some (23, true), []⟩,
    ⟨some 25, .bld [.i .i64 0, .i .u16 0] [(0, 1, .v (.i .i64 1)), (1, 1, .v (.i .u16 11))], some (23, true), []⟩,
    ⟨some 26, .eqs false [.i .i64, .i .u16] (.t 24) (.t 25), some (23, true), []⟩,
    ⟨some 27, .pick (.t 23) (.t 26) (.v (.b false)), none, []⟩,
    ⟨some 28, .mv (.t 27), none, []⟩,
    ⟨some 29, .mv (.t 4), some (28, true), []⟩,
    ⟨some 30, .bin .eql (.t 29) (.v (.i .i64 0)), some (28, true), []⟩,
    ⟨some 31, .pick (.t 28) (.t 30) (.v (.b false)), none, []⟩,
    ⟨some 32, .mv (.t 31), none, []⟩,
    ⟨some 33, .ld (.t 3) 2 true, some (32, true), []⟩,
    ⟨some 34, .bld [.b false, .i .u8 0] [(1, 1, .v (.i .u8 15))], some (32, true), []⟩,
    ⟨some 35, .eqs false [.b, .i .u8] (.t 33) (.t 34), some (32, true), []⟩,
    ⟨some 36, .pick (.t 32) (.t 35) (.v (.b false)), none, []⟩,
    ⟨some 37, .mv (.t 36), none, []⟩,
    ⟨some 38, .mv (.t 6), some (37, true), []⟩,
    ⟨some 39, .bin .eql (.t 38) (.v (.i .i64 4)), some (37, true), []⟩,
    ⟨some 40, .pick (.t 37) (.t 39) (.v (.b false)), none, []⟩,
    ⟨some 41, .mv (.t 40), none, []⟩,
    ⟨some 42, .ld (.t 3) 2 true, some (41, true), []⟩,
    ⟨some 43, .call (.v (.fn 14 [])) [.t 42], some (41, true), []⟩,
    ⟨some 44, .bin .eql (.t 43) (.v (.s [45, 49, 53])), some (41, true), []⟩,
    ⟨some 45, .pick (.t 41) (.t 44) (.v (.b false)), none, []⟩,
    ⟨some 46, .mv (.t 45), none, []⟩,
    ⟨some 47, .ld (.t 1) 2 true, some (46, true), []⟩,
    ⟨some 48, .call (.v (.fn 12 [])) [.t 47], some (46, true), []⟩,
    ⟨some 49, .pick (.t 46) (.t 48) (.v (.b false)), none, []⟩,
    ⟨some 0, .mv (.t 49), none, []⟩])
  (.ret)))))
theorem run6 : Run 6 xc6 50 [.t 0] := run_of false Tryd.func6 rfl (by kernel_rfl) rfl rfl

/-- chantry/roll.Path -/
noncomputable def xc7 : XC :=
  .seq (.ops false [⟨some 2, .box (.t 0), none, []⟩,
    ⟨some 4, .mv (.v (.ns)), none, []⟩])
  (.seq (.seq (.ops false [⟨some 10, .ld (.t 2) 2 true, none, []⟩,
    ⟨some 11, .call (.v (.fn 12 [])) [.t 10], none, []⟩,
    ⟨some 12, .un .not (.t 11), none, []⟩])
  (.cond (.t 12) (.seq (.ops false [⟨some 4, .mv (.v (.ns)), none, []⟩])
  (.ret)) (.skip)))
  (.seq (.ops false [⟨some 13, .ld (.t 2) 2 true, none, []⟩,
    ⟨some 14, .bsl .roll [.t 13], none, []⟩,
    ⟨some 5, .mv (.t 14), none, []⟩])
  (.seq (.seq (.ops false [⟨some 15, .mv (.t 1), none, []⟩,
    ⟨some 16, .len false (.t 15), none, []⟩,
    ⟨some 17, .mv (.v (.i .i64 0)), none, []⟩])
  (.block 0 (.loop (.seq (.ops false [⟨some 18, .bin .lss (.t 17) (.t 16), none, []⟩])
  (.seq (.cond (.t 18) (.skip) (.exit 0))
  (.seq (.block 1 (.seq (.ops false [⟨some 19, .ia .change (.t 15) (.t 17), none, []⟩,
    ⟨some 20, .ld (.t 19) 2 true, none, []⟩,
    ⟨some 7, .new [.b false, .i .u8 0], none, []⟩,
    ⟨none, .st (.t 7) (.t 20) 2, none, []⟩])
  (.seq (.ops true [⟨some 22, .mv (.t 5), none, []⟩,
    ⟨some 23, .mv (.t 5), none, []⟩,
    ⟨some 24, .len false (.t 23), none, [1]⟩,
    ⟨some 25, .bin .sub (.t 24) (.v (.i .i64 1)), none, [2, 1]⟩,
    ⟨some 26, .ia .roll (.t 22) (.t 25), none, [0, 3, 2, 1]⟩,
    ⟨some 27, .ld (.t 26) 2 true, none, [4, 0, 3, 2, 1]⟩,
    ⟨some 28, .ld (.t 7) 2 true, none, []⟩,
    ⟨some 29, .call (.v (.fn 10 [])) [.t 27, .t 28], none, [5, 4, 0, 3, 2, 1, 6]⟩,
    ⟨some 21, .mv (.t 29), none, [7, 5, 4, 0, 3, 2, 1, 6]⟩,
    ⟨some 30, .ext (.t 21) 0, none, [8, 7, 5, 4, 0, 3, 2, 1, 6]⟩,
    ⟨some 31, .ext (.t 21) 1, none, [8, 7, 5, 4, 0, 3, 2, 1, 6]⟩,
    ⟨some 8, .new [.i .i64 0, .i .u16 0], none, []⟩,
    ⟨none, .st (.t 8) (.t 30) 2, none, [11, 9, 8, 7, 5, 4, 0, 3, 2, 1, 6]⟩,
    ⟨some 9, .mv (.t 31), none, [10, 8, 7, 5, 4, 0, 3, 2, 1, 6, 12, 11, 9]⟩])
  (.seq (.seq (.ops false [⟨some 32, .mv (.t 9), none, []⟩,
    ⟨some 33, .bin .neq (.t 32) (.v (.i .i64 0)), none, []⟩])
  (.cond (.t 33) (.exit 0) (.skip)))
  (.ops false [⟨some 34, .mv (.t 5), none, []⟩,
    ⟨some 35, .ld (.t 8) 2 true, none, []⟩,
    ⟨some 36, .bsl .roll [.t 35], none, []⟩,
    ⟨some 37, .app .roll (.t 34) (.t 36), none, []⟩,
    ⟨some 5, .mv (.t 37), none, []⟩])))))
  (.ops false [⟨some 38, .bin .add (.t 17) (.v (.i .i64 1)), none, []⟩,
    ⟨some 17, .mv (.t 38), none, []⟩])))))))
  (.seq (.ops false [⟨some 39, .mv (.t 5), none, []⟩,
    ⟨some 4, .mv (.t 39), none, []⟩])
  (.ret)))))
theorem run7 : Run 7 xc7 40 [.t 4] := run_of false Tryd.func7 rfl (by kernel_rfl) rfl rfl

/-- chantry/chantrylaw11.changes -/
noncomputable def xc8 : XC :=
  .seq (.ops false [⟨some 2, .mv (.v (.ns)), none, []⟩])
  (.seq (.ops false [⟨some 3, .mv (.v (.ns)), none, []⟩])
  (.seq (.seq (.ops false [⟨some 6, .mv (.t 0), none, []⟩,
    ⟨some 7, .len false (.t 6), none, []⟩,
    ⟨some 8, .mv (.v (.i .i64 0)), none, []⟩])
  (.block 0 (.loop (.seq (.ops false [⟨some 9, .bin .lss (.t 8) (.t 7), none, []⟩])
  (.seq (.cond (.t 9) (.skip) (.exit 0))
  (.seq (.block 1 (.seq (.ops false [⟨some 10, .ia .change (.t 6) (.t 8), none, []⟩,
    ⟨some 11, .ld (.t 10) 2 true, none, []⟩,
    ⟨some 5, .new [.b false, .i .u8 0], none, []⟩,
    ⟨none, .st (.t 5) (.t 11) 2, none, []⟩])
  (.ops false [⟨some 12, .mv (.t 3), none, []⟩,
    ⟨some 13, .ld (.t 5) 2 true, none, []⟩,
    ⟨some 14, .bsl .change [.t 13], none, []⟩,
    ⟨some 15, .app .change (.t 12) (.t 14), none, []⟩,
    ⟨some 3, .mv (.t 15), none, []⟩])))
  (.ops false [⟨some 16, .bin .add (.t 8) (.v (.i .i64 1)), none, []⟩,
    ⟨some 8, .mv (.t 16), none, []⟩])))))))
  (.seq (.ops false [⟨some 17, .mv (.t 3), none, []⟩,
    ⟨some 2, .mv (.t 17), none, []⟩])
  (.ret))))
theorem run8 : Run 8 xc8 18 [.t 2] := run_of false Tryd.func8 rfl (by kernel_rfl) rfl rfl

/-- chantry/chantryref11.Path -/
noncomputable def xc9 : XC :=
  .seq (.ops false [⟨some 2, .box (.t 0), none, []⟩,
    ⟨some 4, .mv (.v (.ns)), none, []⟩])
  (.seq (.ops false [⟨some 5, .mv (.v (.ns)), none, []⟩])
  (.seq (.seq (.ops false [⟨some 9, .ld (.t 2) 2 true, none, []⟩,
    ⟨some 10, .call (.v (.fn 15 [])) [.t 9], none, []⟩,
    ⟨some 11, .un .not (.t 10), none, []⟩])
  (.cond (.t 11) (.seq (.ops false [⟨some 12, .mv (.t 5), none, []⟩,
    ⟨some 4, .mv (.t 12), none, []⟩])
  (.ret)) (.skip)))
  (.seq (.ops false [⟨some 13, .mv (.t 5), none, []⟩,
    ⟨some 14, .ld (.t 2) 2 true, none, []⟩,
    ⟨some 15, .bsl .roll [.t 14], none, []⟩,
    ⟨some 16, .app .roll (.t 13) (.t 15), none, []⟩,
    ⟨some 5, .mv (.t 16), none, []⟩])
  (.seq (.seq (.ops false [⟨some 6, .mv (.v (.i .i64 0)), none, []⟩])
  (.block 0 (.loop (.seq (.seq (.ops false [⟨some 17, .mv (.t 6), none, []⟩,
    ⟨some 18, .mv (.t 1), none, []⟩,
    ⟨some 19, .len false (.t 18), none, []⟩,
    ⟨some 20, .bin .lss (.t 17) (.t 19), none, []⟩])
  (.cond (.t 20) (.skip) (.exit 0)))
  (.seq (.block 1 (.seq (.ops true [⟨some 24, .ld (.t 2) 2 true, none, []⟩,
    ⟨some 25, .mv (.t 1), none, []⟩,
    ⟨some 26, .mv (.t 6), none, []⟩,
    ⟨some 27, .ia .change (.t 25) (.t 26), none, [1, 2]⟩,
    ⟨some 28, .ld (.t 27) 2 true, none, [3, 1, 2]⟩,
    ⟨some 29, .call (.v (.fn 16 [])) [.t 24, .t 28], none, [0, 4, 3, 1, 2]⟩,
    ⟨some 23, .mv (.t 29), none, [5, 0, 4, 3, 1, 2]⟩,
    ⟨some 30, .ext (.t 23) 0, none, [6, 5, 0, 4, 3, 1, 2]⟩,
    ⟨some 31, .ext (.t 23) 1, none, [6, 5, 0, 4, 3, 1, 2]⟩,
    ⟨some 7, .new [.i .i64 0, .i .u16 0], none, []⟩,
    ⟨none, .st (.t 7) (.t 30) 2, none, [9, 7, 6, 5, 0, 4, 3, 1, 2]⟩,
    ⟨some 8, .mv (.t 31), none, [8, 6, 5, 0, 4, 3, 1, 2, 10, 9, 7]⟩])
  (.seq (.seq (.ops false [⟨some 32, .mv (.t 8), none, []⟩,
    ⟨some 33, .bin .neq (.t 32) (.v (.i .i64 0)), none, []⟩])
  (.cond (.t 33) (.seq (.ops false [⟨some 34, .mv (.t 5), none, []⟩,
    ⟨some 4, .mv (.t 34), none, []⟩])
  (.ret)) (.skip)))
  (.seq (.ops false [⟨some 35, .ld (.t 7) 2 true, none, []⟩,
    ⟨none, .st (.t 2) (.t 35) 2, none, []⟩])
  (.ops false [⟨some 36, .mv (.t 5), none, []⟩,
    ⟨some 37, .ld (.t 2) 2 true, none, []⟩,
    ⟨some 38, .bsl .roll [.t 37], none, []⟩,
    ⟨some 39, .app .roll (.t 36) (.t 38), none, []⟩,
    ⟨some 5, .mv (.t 39), none, []⟩])))))
  (.ops false [⟨some 21, .mv (.t 6), none, []⟩,
    ⟨some 22, .bin .add (.t 21) (.v (.i .i64 1)), none, []⟩,
    ⟨some 6, .mv (.t 22), none, []⟩]))))))
  (.seq (.ops false [⟨some 40, .mv (.t 5), none, []⟩,
    ⟨some 4, .mv (.t 40), none, []⟩])
  (.ret))))))
theorem run9 : Run 9 xc9 41 [.t 4] := run_of false Tryd.func9 rfl (by kernel_rfl) rfl rfl

/-- chantry/roll.Apply -/
noncomputable def xc10 : XC :=
  .seq (.ops false [⟨some 2, .box (.t 0), none, []⟩,
    ⟨some 3, .box (.t 1), none, []⟩,
    ⟨some 4, .new [.i .i64 0, .i .u16 0], none, []⟩,
    ⟨some 5, .mv (.v (.i .i64 0)), none, []⟩])
  (.seq (.ops false [⟨some 8, .fa (.t 2) 1, none, []⟩,
    ⟨some 9, .ld (.t 8) 1 false, none, []⟩,
    ⟨some 10, .fa (.t 3) 1, none, []⟩,
    ⟨some 11, .ld (.t 10) 1 false, none, []⟩,
    ⟨some 12, .call (.v (.fn 17 [])) [.t 9, .t 11], none, []⟩,
    ⟨some 6, .mv (.t 12), none, []⟩])
  (.seq (.block 0 (.seq (.ops false [⟨some 14, .ld (.t 2) 2 true, none, []⟩,
    ⟨some 15, .call (.v (.fn 12 [])) [.t 14], none, []⟩,
    ⟨some 16, .un .not (.t 15), none, []⟩,
    ⟨some 17, .mv (.t 16), none, []⟩,
    ⟨some 18, .fa (.t 3) 1, some (17, false), []⟩,
    ⟨some 19, .ld (.t 18) 1 false, some (17, false), []⟩,
    ⟨some 20, .bin .geq (.t 19) (.v (.i .u8 16)), some (17, false), []⟩,
    ⟨some 21, .pick (.t 17) (.v (.b true)) (.t 20), none, []⟩,
    ⟨some 13, .mv (.t 21), none, []⟩])
  (.cond (.t 13) (.seq (.ops false [⟨some 22, .bld [.i .i64 0, .i .u16 0] [], none, []⟩,
    ⟨none, .st (.t 4) (.t 22) 2, none, []⟩,
    ⟨some 5, .mv (.v (.i .i64 2)), none, []⟩])
  (.ret)) (.seq (.ops false [⟨some 24, .fa (.t 3) 0, none, []⟩,
    ⟨some 25, .ld (.t 24) 1 false, none, []⟩,
    ⟨some 26, .mv (.t 25), none, []⟩,
    ⟨some 27, .mv (.t 6), some (26, true), []⟩,
    ⟨some 28, .pick (.t 26) (.t 27) (.v (.b false)), none, []⟩,
    ⟨some 23, .mv (.t 28), none, []⟩])
  (.cond (.t 23) (.seq (.ops false [⟨some 29, .bld [.i .i64 0, .i .u16 0] [], none, []⟩,
    ⟨none, .st (.t 4) (.t 29) 2, none, []⟩,
    ⟨some 5, .mv (.v (.i .i64 9)), none, []⟩])
  (.ret)) (.seq (.ops false [⟨some 31, .fa (.t 3) 0, none, []⟩,
    ⟨some 32, .ld (.t 31) 1 false, none, []⟩,
    ⟨some 33, .un .not (.t 32), none, []⟩,
    ⟨some 34, .mv (.t 33), none, []⟩,
    ⟨some 35, .mv (.t 6), some (34, true), []⟩,
    ⟨some 36, .un .not (.t 35), some (34, true), []⟩,
    ⟨some 37, .pick (.t 34) (.t 36) (.v (.b false)), none, []⟩,
    ⟨some 30, .mv (.t 37), none, []⟩])
  (.cond (.t 30) (.seq (.ops false [⟨some 38, .bld [.i .i64 0, .i .u16 0] [], none, []⟩,
    ⟨none, .st (.t 4) (.t 38) 2, none, []⟩,
    ⟨some 5, .mv (.v (.i .i64 8)), none, []⟩])
  (.ret)) (.seq (.ops false [⟨some 40, .fa (.t 2) 0, none, []⟩,
    ⟨some 41, .ld (.t 40) 1 false, none, []⟩,
    ⟨some 42, .bin .eql (.t 41) (.v (.i .i64 1000)), none, []⟩,
    ⟨some 39, .mv (.t 42), none, []⟩])
  (.cond (.t 39) (.seq (.ops false [⟨some 43, .bld [.i .i64 0, .i .u16 0] [], none, []⟩,
    ⟨none, .st (.t 4) (.t 43) 2, none, []⟩,
    ⟨some 5, .mv (.v (.i .i64 11)), none, []⟩])
  (.ret)) (.skip))))))))))
  (.seq (.ops true [⟨some 44, .fa (.t 2) 0, none, []⟩,
    ⟨some 45, .ld (.t 44) 1 false, none, [0]⟩,
    ⟨some 46, .bin .add (.t 45) (.v (.i .i64 1)), none, [1, 0]⟩,
    ⟨some 47, .fa (.t 2) 1, none, []⟩,
    ⟨some 48, .ld (.t 47) 1 false, none, [3]⟩,
    ⟨some 49, .fa (.t 3) 1, none, []⟩,
    ⟨some 50, .ld (.t 49) 1 false, none, [5]⟩,
    ⟨some 51, .call (.v (.fn 18 [])) [.t 48, .t 50], none, [4, 3, 6, 5]⟩,
    ⟨some 52, .bld [.i .i64 0, .i .u16 0] [(0, 1, .t 46), (1, 1, .t 51)], none, [2, 1, 0, 7, 4, 3, 6, 5]⟩,
    ⟨some 7, .new [.i .i64 0, .i .u16 0], none, []⟩,
    ⟨none, .st (.t 7) (.t 52) 2, none, [9, 8, 2, 1, 0, 7, 4, 3, 6, 5]⟩])
  (.seq (.seq (.ops false [⟨some 53, .fa (.t 3) 0, none, []⟩,
    ⟨some 54, .ld (.t 53) 1 false, none, []⟩])
  (.cond (.t 54) (.ops false [⟨some 55, .fa (.t 2) 1, none, []⟩,
    ⟨some 56, .ld (.t 55) 1 false, none, []⟩,
    ⟨some 57, .fa (.t 3) 1, none, []⟩,
    ⟨some 58, .ld (.t 57) 1 false, none, []⟩,
    ⟨some 59, .call (.v (.fn 19 [])) [.t 56, .t 58], none, []⟩,
    ⟨some 60, .fa (.t 7) 1, none, []⟩,
    ⟨none, .st (.t 60) (.t 59) 1, none, []⟩]) (.skip)))
  (.seq (.seq (.ops false [⟨some 61, .fa (.t 7) 1, none, []⟩,
    ⟨some 62, .ld (.t 61) 1 false, none, []⟩,
    ⟨some 63, .bin .eql (.t 62) (.v (.i .u16 0)), none, []⟩])
  (.cond (.t 63) (.seq (.ops false [⟨some 64, .bld [.i .i64 0, .i .u16 0] [], none, []⟩,
    ⟨none, .st (.t 4) (.t 64) 2, none, []⟩,
    ⟨some 5, .mv (.v (.i .i64 10)), none, []⟩])
  (.ret)) (.skip)))
  (.seq (.ops false [⟨some 65, .ld (.t 7) 2 true, none, []⟩,
    ⟨none, .st (.t 4) (.t 65) 2, none, []⟩,
    ⟨some 5, .mv (.v (.i .i64 0)), none, []⟩])
  (.ret)))))))
theorem run10 : Run 10 xc10 66 [.cell 4 2 true, .t 5] := run_of false Tryd.func10 rfl (by kernel_rfl) rfl rfl

/-- chantry/chantryref05.Size -/
noncomputable def xc11 : XC :=
  .seq (.ops false [⟨some 2, .mv (.v (.i .i64 0)), none, []⟩])
  (.seq (.ops false [⟨some 3, .mv (.t 0), none, []⟩,
    ⟨some 4, .call (.v (.fn 20 [])) [.t 3], none, []⟩,
    ⟨some 5, .len false (.t 4), none, []⟩,
    ⟨some 2, .mv (.t 5), none, []⟩])
  (.ret))
theorem run11 : Run 11 xc11 6 [.t 2] := run_of false Tryd.func11 rfl (by kernel_rfl) rfl rfl

/-- chantry/roll.Right -/
noncomputable def xc12 : XC :=
  .seq (.ops false [⟨some 1, .box (.t 0), none, []⟩,
    ⟨some 2, .mv (.v (.b false)), none, []⟩])
  (.seq (.ops false [⟨some 3, .fa (.t 1) 0, none, []⟩,
    ⟨some 4, .ld (.t 3) 1 false, none, []⟩,
    ⟨some 5, .bin .geq (.t 4) (.v (.i .i64 0)), none, []⟩,
    ⟨some 6, .mv (.t 5), none, []⟩,
    ⟨some 7, .fa (.t 1) 0, some (6, true), []⟩,
    ⟨some 8, .ld (.t 7) 1 false, some (6, true), []⟩,
    ⟨some 9, .bin .leq (.t 8) (.v (.i .i64 1000)), some (6, true), []⟩,
    ⟨some 10, .pick (.t 6) (.t 9) (.v (.b false)), none, []⟩,
    ⟨some 11, .mv (.t 10), none, []⟩,
    ⟨some 12, .fa (.t 1) 1, some (11, true), []⟩,
    ⟨some 13, .ld (.t 12) 1 false, some (11, true), []⟩,
    ⟨some 14, .bin .neq (.t 13) (.v (.i .u16 0)), some (11, true), []⟩,
    ⟨some 15, .pick (.t 11) (.t 14) (.v (.b false)), none, []⟩,
    ⟨some 2, .mv (.t 15), none, []⟩])
  (.ret))
theorem run12 : Run 12 xc12 16 [.t 2] := run_of false Tryd.func12 rfl (by kernel_rfl) rfl rfl

/-- chantry/roll.Parse -/
noncomputable def xc13 : XC :=
  .seq (.ops false [⟨some 2, .new [.b false, .i .u8 0], none, []⟩,
    ⟨some 3, .mv (.v (.i .i64 0)), none, []⟩])
  (.seq (.ops false [⟨some 10, .mv (.t 0), none, []⟩,
    ⟨some 11, .call (.v (.fn 21 [])) [.t 10, .v (.s [43])], none, []⟩,
    ⟨some 9, .mv (.t 11), none, []⟩,
    ⟨some 12, .ext (.t 9) 0, none, []⟩,
    ⟨some 13, .ext (.t 9) 1, none, []⟩,
    ⟨some 4, .mv (.t 12), none, []⟩,
    ⟨some 5, .mv (.t 13), none, []⟩])
  (.seq (.seq (.ops false [⟨some 14, .mv (.t 5), none, []⟩,
    ⟨some 15, .un .not (.t 14), none, []⟩])
  (.cond (.t 15) (.ops false [⟨some 16, .mv (.t 0), none, []⟩,
    ⟨some 17, .call (.v (.fn 22 [])) [.t 16, .v (.s [45])], none, []⟩,
    ⟨some 4, .mv (.t 17), none, []⟩]) (.skip)))
  (.seq (.ops false [⟨some 19, .mv (.t 4), none, []⟩,
    ⟨some 20, .call (.v (.fn 23 [])) [.t 19, .v (.i .i64 10), .v (.i .i64 4)], none, []⟩,
    ⟨some 18, .mv (.t 20), none, []⟩,
    ⟨some 21, .ext (.t 18) 0, none, []⟩,
    ⟨some 22, .ext (.t 18) 1, none, []⟩,
    ⟨some 6, .mv (.t 21), none, []⟩,
    ⟨some 7, .mv (.t 22), none, []⟩])
  (.seq (.ops false [⟨some 23, .mv (.t 5), none, []⟩,
    ⟨some 24, .mv (.t 6), none, []⟩,
    ⟨some 25, .ci .u8 (.t 24), none, []⟩,
    ⟨some 26, .bld [.b false, .i .u8 0] [(0, 1, .t 23), (1, 1, .t 25)], none, []⟩,
    ⟨some 8, .new [.b false, .i .u8 0], none, []⟩,
    ⟨none, .st (.t 8) (.t 26) 2, none, []⟩])
  (.seq (.seq (.ops false [⟨some 27, .mv (.t 7), none, []⟩,
    ⟨some 28, .eqk .if_ true (.t 27) (.v (.ni)), none, []⟩,
    ⟨some 29, .mv (.t 28), none, []⟩,
    ⟨some 30, .ld (.t 8) 2 true, some (29, false), []⟩,
    ⟨some 31, .call (.v (.fn 14 [])) [.t 30], some (29, false), []⟩,
    ⟨some 32, .mv (.t 0), some (29, false), []⟩,
    ⟨some 33, .bin .neq (.t 31) (.t 32), some (29, false), []⟩,
    ⟨some 34, .pick (.t 29) (.v (.b true)) (.t 33), none, []⟩])
  (.cond (.t 34) (.seq (.ops false [⟨some 35, .bld [.b false, .i .u8 0] [], none, []⟩,
    ⟨none, .st (.t 2) (.t 35) 2, none, []⟩,
    ⟨some 3, .mv (.v (.i .i64 4)), none, []⟩])
  (.ret)) (.skip)))
  (.seq (.ops false [⟨some 36, .ld (.t 8) 2 true, none, []⟩,
    ⟨none, .st (.t 2) (.t 36) 2, none, []⟩,
    ⟨some 3, .mv (.v (.i .i64 0)), none, []⟩])
  (.ret)))))))
theorem run13 : Run 13 xc13 37 [.cell 2 2 true, .t 3] := run_of false Tryd.func13 rfl (by kernel_rfl) rfl rfl

/-- chantry/roll.Text -/
noncomputable def xc14 : XC :=
  .seq (.ops false [⟨some 1, .box (.t 0), none, []⟩,
    ⟨some 2, .mv (.v (.s [])), none, []⟩])
  (.seq (.ops false [⟨some 4, .fa (.t 1) 1, none, []⟩,
    ⟨some 5, .ld (.t 4) 1 false, none, []⟩,
    ⟨some 6, .ci .i64 (.t 5), none, []⟩,
    ⟨some 7, .call (.v (.fn 24 [])) [.t 6], none, []⟩,
    ⟨some 3, .mv (.t 7), none, []⟩])
  (.seq (.seq (.ops false [⟨some 8, .fa (.t 1) 0, none, []⟩,
    ⟨some 9, .ld (.t 8) 1 false, none, []⟩])
  (.cond (.t 9) (.seq (.ops false [⟨some 10, .mv (.t 3), none, []⟩,
    ⟨some 11, .bin .add (.v (.s [43])) (.t 10), none, []⟩,
    ⟨some 2, .mv (.t 11), none, []⟩])
  (.ret)) (.skip)))
  (.seq (.ops false [⟨some 12, .mv (.t 3), none, []⟩,
    ⟨some 13, .bin .add (.v (.s [45])) (.t 12), none, []⟩,
    ⟨some 2, .mv (.t 13), none, []⟩])
  (.ret))))
theorem run14 : Run 14 xc14 14 [.t 2] := run_of false Tryd.func14 rfl (by kernel_rfl) rfl rfl

/-- chantry/chantryref11.Right -/
noncomputable def xc15 : XC :=
  .seq (.ops false [⟨some 1, .box (.t 0), none, []⟩,
    ⟨some 2, .mv (.v (.b false)), none, []⟩])
  (.seq (.ops false [⟨some 3, .fa (.t 1) 0, none, []⟩,
    ⟨some 4, .ld (.t 3) 1 false, none, []⟩,
    ⟨some 5, .bin .geq (.t 4) (.v (.i .i64 0)), none, []⟩,
    ⟨some 6, .mv (.t 5), none, []⟩,
    ⟨some 7, .fa (.t 1) 0, some (6, true), []⟩,
    ⟨some 8, .ld (.t 7) 1 false, some (6, true), []⟩,
    ⟨some 9, .bin .leq (.t 8) (.v (.i .i64 1000)), some (6, true), []⟩,
    ⟨some 10, .pick (.t 6) (.t 9) (.v (.b false)), none, []⟩,
    ⟨some 11, .mv (.t 10), none, []⟩,
    ⟨some 12, .fa (.t 1) 1, some (11, true), []⟩,
    ⟨some 13, .ld (.t 12) 1 false, some (11, true), []⟩,
    ⟨some 14, .bin .neq (.t 13) (.v (.i .u16 0)), some (11, true), []⟩,
    ⟨some 15, .pick (.t 11) (.t 14) (.v (.b false)), none, []⟩,
    ⟨some 2, .mv (.t 15), none, []⟩])
  (.ret))
theorem run15 : Run 15 xc15 16 [.t 2] := run_of false Tryd.func15 rfl (by kernel_rfl) rfl rfl

/-- chantry/chantryref11.Apply -/
noncomputable def xc16 : XC :=
  .seq (.ops false [⟨some 2, .box (.t 0), none, []⟩,
    ⟨some 3, .box (.t 1), none, []⟩,
    ⟨some 4, .new [.i .i64 0, .i .u16 0], none, []⟩,
    ⟨some 5, .mv (.v (.i .i64 0)), none, []⟩])
  (.seq (.ops false [⟨some 7, .fa (.t 2) 1, none, []⟩,
    ⟨some 8, .ld (.t 7) 1 false, none, []⟩,
    ⟨some 9, .fa (.t 3) 1, none, []⟩,
    ⟨some 10, .ld (.t 9) 1 false, none, []⟩,
    ⟨some 11, .call (.v (.fn 25 [])) [.t 8, .t 10], none, []⟩,
    ⟨some 6, .mv (.t 11), none, []⟩])
  (.seq (.block 0 (.seq (.ops false [⟨some 13, .ld (.t 2) 2 true, none, []⟩,
    ⟨some 14, .call (.v (.fn 15 [])) [.t 13], none, []⟩,
    ⟨some 15, .un .not (.t 14), none, []⟩,
    ⟨some 16, .mv (.t 15), none, []⟩,
    ⟨some 17, .fa (.t 3) 1, some (16, false), []⟩,
    ⟨some 18, .ld (.t 17) 1 false, some (16, false), []⟩,
    ⟨some 19, .bin .gtr (.t 18) (.v (.i .u8 15)), some (16, false), []⟩,
    ⟨some 20, .pick (.t 16) (.v (.b true)) (.t 19), none, []⟩,
    ⟨some 12, .mv (.t 20), none, []⟩])
  (.cond (.t 12) (.seq (.ops false [⟨some 21, .bld [.i .i64 0, .i .u16 0] [], none, []⟩,
    ⟨none, .st (.t 4) (.t 21) 2, none, []⟩,
    ⟨some 5, .mv (.v (.i .i64 2)), none, []⟩])
  (.ret)) (.seq (.ops false [⟨some 23, .fa (.t 3) 0, none, []⟩,
    ⟨some 24, .ld (.t 23) 1 false, none, []⟩,
    ⟨some 25, .mv (.t 24), none, []⟩,
    ⟨some 26, .mv (.t 6), some (25, true), []⟩,
    ⟨some 27, .pick (.t 25) (.t 26) (.v (.b false)), none, []⟩,
    ⟨some 22, .mv (.t 27), none, []⟩])
  (.cond (.t 22) (.seq (.ops false [⟨some 28, .bld [.i .i64 0, .i .u16 0] [], none, []⟩,
    ⟨none, .st (.t 4) (.t 28) 2, none, []⟩,
    ⟨some 5, .mv (.v (.i .i64 9)), none, []⟩])
  (.ret)) (.seq (.ops false [⟨some 30, .fa (.t 3) 0, none, []⟩,
    ⟨some 31, .ld (.t 30) 1 false, none, []⟩,
    ⟨some 32, .un .not (.t 31), none, []⟩,
    ⟨some 33, .mv (.t 32), none, []⟩,
    ⟨some 34, .mv (.t 6), some (33, true), []⟩,
    ⟨some 35, .un .not (.t 34), some (33, true), []⟩,
    ⟨some 36, .pick (.t 33) (.t 35) (.v (.b false)), none, []⟩,
    ⟨some 29, .mv (.t 36), none, []⟩])
  (.cond (.t 29) (.seq (.ops false [⟨some 37, .bld [.i .i64 0, .i .u16 0] [], none, []⟩,
    ⟨none, .st (.t 4) (.t 37) 2, none, []⟩,
    ⟨some 5, .mv (.v (.i .i64 8)), none, []⟩])
  (.ret)) (.seq (.ops false [⟨some 39, .fa (.t 2) 0, none, []⟩,
    ⟨some 40, .ld (.t 39) 1 false, none, []⟩,
    ⟨some 41, .bin .eql (.t 40) (.v (.i .i64 1000)), none, []⟩,
    ⟨some 38, .mv (.t 41), none, []⟩])
  (.cond (.t 38) (.seq (.ops false [⟨some 42, .bld [.i .i64 0, .i .u16 0] [], none, []⟩,
    ⟨none, .st (.t 4) (.t 42) 2, none, []⟩,
    ⟨some 5, .mv (.v (.i .i64 11)), none, []⟩])
  (.ret)) (.seq (.ops false [⟨some 44, .fa (.t 3) 0, none, []⟩,
    ⟨some 45, .ld (.t 44) 1 false, none, []⟩,
    ⟨some 46, .un .not (.t 45), none, []⟩,
    ⟨some 47, .mv (.t 46), none, []⟩,
    ⟨some 48, .fa (.t 2) 1, some (47, true), []⟩,
    ⟨some 49, .ld (.t 48) 1 false, some (47, true), []⟩,
    ⟨some 50, .call (.v (.fn 11 [])) [.t 49], some (47, true), []⟩,
    ⟨some 51, .bin .eql (.t 50) (.v (.i .i64 1)), some (47, true), []⟩,
    ⟨some 52, .pick (.t 47) (.t 51) (.v (.b false)), none, []⟩,
    ⟨some 43, .mv (.t 52), none, []⟩])
  (.cond (.t 43) (.seq (.ops false [⟨some 53, .bld [.i .i64 0, .i .u16 0] [], none, []⟩,
    ⟨none, .st (.t 4) (.t 53) 2, none, []⟩,
    ⟨some 5, .mv (.v (.i .i64 10)), none, []⟩])
  (.ret)) (.skip))))))))))))
  (.seq (.ops false [⟨some 54, .fa (.t 2) 0, none, []⟩,
    ⟨some 55, .ld (.t 54) 1 false, none, []⟩,
    ⟨some 56, .bin .add (.t 55) (.v (.i .i64 1)), none, []⟩,
    ⟨some 57, .fa (.t 2) 0, none, []⟩,
    ⟨none, .st (.t 57) (.t 56) 1, none, []⟩])
  (.seq (.seq (.ops false [⟨some 58, .fa (.t 3) 0, none, []⟩,
    ⟨some 59, .ld (.t 58) 1 false, none, []⟩])
  (.cond (.t 59) (.ops false [⟨some 60, .fa (.t 2) 1, none, []⟩,
    ⟨some 61, .ld (.t 60) 1 false, none, []⟩,
    ⟨some 62, .fa (.t 3) 1, none, []⟩,
    ⟨some 63, .ld (.t 62) 1 false, none, []⟩,
    ⟨some 64, .call (.v (.fn 26 [])) [.t 61, .t 63], none, []⟩,
    ⟨some 65, .fa (.t 2) 1, none, []⟩,
    ⟨none, .st (.t 65) (.t 64) 1, none, []⟩]) (.ops false [⟨some 66, .fa (.t 2) 1, none, []⟩,
    ⟨some 67, .ld (.t 66) 1 false, none, []⟩,
    ⟨some 68, .fa (.t 3) 1, none, []⟩,
    ⟨some 69, .ld (.t 68) 1 false, none, []⟩,
    ⟨some 70, .call (.v (.fn 27 [])) [.t 67, .t 69], none, []⟩,
    ⟨some 71, .fa (.t 2) 1, none, []⟩,
    ⟨none, .st (.t 71) (.t 70) 1, none, []⟩])))
  (.seq (.ops false [⟨some 72, .ld (.t 2) 2 true, none, []⟩,
    ⟨none, .st (.t 4) (.t 72) 2, none, []⟩,
    ⟨some 5, .mv (.v (.i .i64 0)), none, []⟩])
  (.ret))))))
theorem run16 : Run 16 xc16 73 [.cell 4 2 true, .t 5] := run_of false Tryd.func16 rfl (by kernel_rfl) rfl rfl

/-- chantry/count.Has -/
noncomputable def xc17 : XC :=
  .seq (.ops false [⟨some 4, .mv (.v (.b false)), none, []⟩])
  (.seq (.ops false [⟨some 5, .mv (.t 0), none, []⟩,
    ⟨some 6, .mv (.t 1), none, []⟩,
    ⟨some 7, .call (.v (.fn 28 [])) [.t 6], none, []⟩,
    ⟨some 8, .bin .and (.t 5) (.t 7), none, []⟩,
    ⟨some 9, .bin .neq (.t 8) (.v (.i .u16 0)), none, []⟩,
    ⟨some 4, .mv (.t 9), none, []⟩])
  (.ret))
theorem run17 : Run 17 xc17 10 [.t 4] := run_of false Tryd.func17 rfl (by kernel_rfl) rfl rfl

/-- chantry/count.Without -/
noncomputable def xc18 : XC :=
  .seq (.ops false [⟨some 4, .mv (.v (.i .u16 0)), none, []⟩])
  (.seq (.ops false [⟨some 5, .mv (.t 0), none, []⟩,
    ⟨some 6, .mv (.t 1), none, []⟩,
    ⟨some 7, .call (.v (.fn 28 [])) [.t 6], none, []⟩,
    ⟨some 8, .bin .andNot (.t 5) (.t 7), none, []⟩,
    ⟨some 4, .mv (.t 8), none, []⟩])
  (.ret))
theorem run18 : Run 18 xc18 9 [.t 4] := run_of false Tryd.func18 rfl (by kernel_rfl) rfl rfl

/-- chantry/count.With -/
noncomputable def xc19 : XC :=
  .seq (.ops false [⟨some 4, .mv (.v (.i .u16 0)), none, []⟩])
  (.seq (.ops false [⟨some 5, .mv (.t 0), none, []⟩,
    ⟨some 6, .mv (.t 1), none, []⟩,
    ⟨some 7, .call (.v (.fn 28 [])) [.t 6], none, []⟩,
    ⟨some 8, .bin .or (.t 5) (.t 7), none, []⟩,
    ⟨some 4, .mv (.t 8), none, []⟩])
  (.ret))
theorem run19 : Run 19 xc19 9 [.t 4] := run_of false Tryd.func19 rfl (by kernel_rfl) rfl rfl

/-- chantry/chantryref05.List -/
noncomputable def xc20 : XC :=
  .seq (.ops false [⟨some 2, .mv (.v (.ns)), none, []⟩])
  (.seq (.ops false [⟨some 3, .mv (.v (.ns)), none, []⟩])
  (.seq (.seq (.ops false [⟨some 4, .mv (.v (.i .i64 0)), none, []⟩])
  (.block 0 (.loop (.seq (.seq (.ops false [⟨some 5, .mv (.t 4), none, []⟩,
    ⟨some 6, .bin .lss (.t 5) (.v (.i .i64 16)), none, []⟩])
  (.cond (.t 6) (.skip) (.exit 0)))
  (.seq (.block 1 (.seq (.ops false [⟨some 9, .mv (.t 0), none, []⟩,
    ⟨some 10, .mv (.t 4), none, []⟩,
    ⟨some 11, .ci .u8 (.t 10), none, []⟩,
    ⟨some 12, .call (.v (.fn 25 [])) [.t 9, .t 11], none, []⟩])
  (.cond (.t 12) (.ops false [⟨some 13, .mv (.t 3), none, []⟩,
    ⟨some 14, .mv (.t 4), none, []⟩,
    ⟨some 15, .ci .u8 (.t 14), none, []⟩,
    ⟨some 16, .bsl (.int .u8) [.t 15], none, []⟩,
    ⟨some 17, .app (.int .u8) (.t 13) (.t 16), none, []⟩,
    ⟨some 3, .mv (.t 17), none, []⟩]) (.skip))))
  (.ops false [⟨some 7, .mv (.t 4), none, []⟩,
    ⟨some 8, .bin .add (.t 7) (.v (.i .i64 1)), none, []⟩,
    ⟨some 4, .mv (.t 8), none, []⟩]))))))
  (.seq (.ops false [⟨some 18, .mv (.t 3), none, []⟩,
    ⟨some 2, .mv (.t 18), none, []⟩])
  (.ret))))
theorem run20 : Run 20 xc20 19 [.t 2] := run_of false Tryd.func20 rfl (by kernel_rfl) rfl rfl

/-- strings.CutPrefix -/
noncomputable def xc21 : XC :=
  .seq (.ops false [⟨some 4, .mv (.v (.s [])), none, []⟩,
    ⟨some 5, .mv (.v (.b false)), none, []⟩])
  (.seq (.ops false [⟨some 6, .mv (.t 0), none, []⟩,
    ⟨some 7, .mv (.t 1), none, []⟩,
    ⟨some 8, .call (.v (.fn 29 [])) [.t 6, .t 7], none, []⟩,
    ⟨some 9, .ext (.t 8) 0, none, []⟩,
    ⟨some 10, .ext (.t 8) 1, none, []⟩,
    ⟨some 4, .mv (.t 9), none, []⟩,
    ⟨some 5, .mv (.t 10), none, []⟩])
  (.ret))
theorem run21 : Run 21 xc21 11 [.t 4, .t 5] := run_of false Tryd.func21 rfl (by kernel_rfl) rfl rfl

/-- strings.TrimPrefix -/
noncomputable def xc22 : XC :=
  .seq (.ops false [⟨some 4, .mv (.v (.s [])), none, []⟩])
  (.seq (.ops false [⟨some 5, .mv (.t 0), none, []⟩,
    ⟨some 6, .mv (.t 1), none, []⟩,
    ⟨some 7, .call (.v (.fn 30 [])) [.t 5, .t 6], none, []⟩,
    ⟨some 4, .mv (.t 7), none, []⟩])
  (.ret))
theorem run22 : Run 22 xc22 8 [.t 4] := run_of false Tryd.func22 rfl (by kernel_rfl) rfl rfl

/-- strconv.ParseUint -/
noncomputable def xc23 : XC :=
  .seq (.ops false [⟨some 6, .mv (.v (.i .u64 0)), none, []⟩,
    ⟨some 7, .mv (.v (.ni)), none, []⟩])
  (.seq (.ops false [⟨some 11, .mv (.t 0), none, []⟩,
    ⟨some 12, .mv (.t 1), none, []⟩,
    ⟨some 13, .mv (.t 2), none, []⟩,
    ⟨some 14, .call (.v (.fn 31 [])) [.t 11, .t 12, .t 13], none, []⟩,
    ⟨some 10, .mv (.t 14), none, []⟩,
    ⟨some 15, .ext (.t 10) 0, none, []⟩,
    ⟨some 16, .ext (.t 10) 1, none, []⟩,
    ⟨some 8, .mv (.t 15), none, []⟩,
    ⟨some 9, .mv (.t 16), none, []⟩])
  (.seq (.seq (.ops false [⟨some 17, .mv (.t 9), none, []⟩,
    ⟨some 18, .eqk .if_ true (.t 17) (.v (.ni)), none, []⟩])
  (.cond (.t 18) (.seq (.ops false [⟨some 19, .mv (.t 8), none, []⟩,
    ⟨some 20, .mv (.t 0), none, []⟩,
    ⟨some 21, .mv (.t 1), none, []⟩,
    ⟨some 22, .mv (.t 2), none, []⟩,
    ⟨some 23, .mv (.t 9), none, []⟩,
    ⟨some 24, .call (.v (.fn 32 [])) [.v (.s [80, 97, 114, 115, 101, 85, 105, 110, 116]), .t 20, .t 21, .t 22, .t 23], none, []⟩,
    ⟨some 6, .mv (.t 19), none, []⟩,
    ⟨some 7, .mv (.t 24), none, []⟩])
  (.ret)) (.skip)))
  (.seq (.ops false [⟨some 25, .mv (.t 8), none, []⟩,
    ⟨some 6, .mv (.t 25), none, []⟩,
    ⟨some 7, .mv (.v (.ni)), none, []⟩])
  (.ret))))
theorem run23 : Run 23 xc23 26 [.t 6, .t 7] := run_of false Tryd.func23 rfl (by kernel_rfl) rfl rfl

/-- strconv.Itoa -/
noncomputable def xc24 : XC :=
  .seq (.ops false [⟨some 2, .mv (.v (.s [])), none, []⟩])
  (.seq (.ops false [⟨some 3, .mv (.t 0), none, []⟩,
    ⟨some 4, .call (.v (.fn 33 [])) [.t 3], none, []⟩,
    ⟨some 2, .mv (.t 4), none, []⟩])
  (.ret))
theorem run24 : Run 24 xc24 5 [.t 2] := run_of false Tryd.func24 rfl (by kernel_rfl) rfl rfl

/-- chantry/chantryref05.Has -/
noncomputable def xc25 : XC :=
  .seq (.ops false [⟨some 4, .mv (.v (.b false)), none, []⟩])
  (.seq (.ops false [⟨some 5, .mv (.t 1), none, []⟩,
    ⟨some 6, .bin .leq (.t 5) (.v (.i .u8 15)), none, []⟩,
    ⟨some 7, .mv (.t 6), none, []⟩,
    ⟨some 8, .mv (.t 0), some (7, true), []⟩,
    ⟨some 9, .mv (.t 1), some (7, true), []⟩,
    ⟨some 10, .call (.v (.fn 34 [])) [.t 9], some (7, true), []⟩,
    ⟨some 11, .bin .quo (.t 8) (.t 10), some (7, true), []⟩,
    ⟨some 12, .bin .rem (.t 11) (.v (.i .u16 2)), some (7, true), []⟩,
    ⟨some 13, .bin .eql (.t 12) (.v (.i .u16 1)), some (7, true), []⟩,
    ⟨some 14, .pick (.t 7) (.t 13) (.v (.b false)), none, []⟩,
    ⟨some 4, .mv (.t 14), none, []⟩])
  (.ret))
theorem run25 : Run 25 xc25 15 [.t 4] := run_of false Tryd.func25 rfl (by kernel_rfl) rfl rfl

/-- chantry/chantryref05.With -/
noncomputable def xc26 : XC :=
  .seq (.ops false [⟨some 4, .mv (.v (.i .u16 0)), none, []⟩])
  (.seq (.seq (.ops false [⟨some 5, .mv (.t 0), none, []⟩,
    ⟨some 6, .mv (.t 1), none, []⟩,
    ⟨some 7, .call (.v (.fn 25 [])) [.t 5, .t 6], none, []⟩])
  (.cond (.t 7) (.seq (.ops false [⟨some 8, .mv (.t 0), none, []⟩,
    ⟨some 4, .mv (.t 8), none, []⟩])
  (.ret)) (.skip)))
  (.seq (.ops false [⟨some 9, .mv (.t 0), none, []⟩,
    ⟨some 10, .mv (.t 1), none, []⟩,
    ⟨some 11, .call (.v (.fn 34 [])) [.t 10], none, []⟩,
    ⟨some 12, .bin .add (.t 9) (.t 11), none, []⟩,
    ⟨some 4, .mv (.t 12), none, []⟩])
  (.ret)))
theorem run26 : Run 26 xc26 13 [.t 4] := run_of false Tryd.func26 rfl (by kernel_rfl) rfl rfl

/-- chantry/chantryref05.Without -/
noncomputable def xc27 : XC :=
  .seq (.ops false [⟨some 4, .mv (.v (.i .u16 0)), none, []⟩])
  (.seq (.seq (.ops false [⟨some 5, .mv (.t 0), none, []⟩,
    ⟨some 6, .mv (.t 1), none, []⟩,
    ⟨some 7, .call (.v (.fn 25 [])) [.t 5, .t 6], none, []⟩,
    ⟨some 8, .un .not (.t 7), none, []⟩])
  (.cond (.t 8) (.seq (.ops false [⟨some 9, .mv (.t 0), none, []⟩,
    ⟨some 4, .mv (.t 9), none, []⟩])
  (.ret)) (.skip)))
  (.seq (.ops false [⟨some 10, .mv (.t 0), none, []⟩,
    ⟨some 11, .mv (.t 1), none, []⟩,
    ⟨some 12, .call (.v (.fn 34 [])) [.t 11], none, []⟩,
    ⟨some 13, .bin .sub (.t 10) (.t 12), none, []⟩,
    ⟨some 4, .mv (.t 13), none, []⟩])
  (.ret)))
theorem run27 : Run 27 xc27 14 [.t 4] := run_of false Tryd.func27 rfl (by kernel_rfl) rfl rfl

/-- chantry/count.bit -/
noncomputable def xc28 : XC :=
  .seq (.ops false [⟨some 2, .mv (.v (.i .u16 0)), none, []⟩])
  (.seq (.ops false [⟨some 3, .mv (.t 0), none, []⟩,
    ⟨some 4, .bin .shl (.v (.i .u64 1)) (.t 3), none, []⟩,
    ⟨some 5, .ci .u16 (.t 4), none, []⟩,
    ⟨some 2, .mv (.t 5), none, []⟩])
  (.ret))
theorem run28 : Run 28 xc28 6 [.t 2] := run_of false Tryd.func28 rfl (by kernel_rfl) rfl rfl

/-- internal/stringslite.CutPrefix -/
noncomputable def xc29 : XC :=
  .seq (.ops false [⟨some 4, .mv (.v (.s [])), none, []⟩,
    ⟨some 5, .mv (.v (.b false)), none, []⟩])
  (.seq (.seq (.ops false [⟨some 6, .mv (.t 0), none, []⟩,
    ⟨some 7, .mv (.t 1), none, []⟩,
    ⟨some 8, .call (.v (.fn 35 [])) [.t 6, .t 7], none, []⟩,
    ⟨some 9, .un .not (.t 8), none, []⟩])
  (.cond (.t 9) (.seq (.ops false [⟨some 10, .mv (.t 0), none, []⟩,
    ⟨some 4, .mv (.t 10), none, []⟩,
    ⟨some 5, .mv (.v (.b false)), none, []⟩])
  (.ret)) (.skip)))
  (.seq (.ops false [⟨some 11, .mv (.t 0), none, []⟩,
    ⟨some 12, .mv (.t 1), none, []⟩,
    ⟨some 13, .len true (.t 12), none, []⟩,
    ⟨some 14, .sls (.t 11) (some (.t 13)) none, none, []⟩,
    ⟨some 4, .mv (.t 14), none, []⟩,
    ⟨some 5, .mv (.v (.b true)), none, []⟩])
  (.ret)))
theorem run29 : Run 29 xc29 15 [.t 4, .t 5] := run_of false Tryd.func29 rfl (by kernel_rfl) rfl rfl

/-- internal/stringslite.TrimPrefix -/
noncomputable def xc30 : XC :=
  .seq (.ops false [⟨some 4, .mv (.v (.s [])), none, []⟩])
  (.seq (.seq (.ops false [⟨some 5, .mv (.t 0), none, []⟩,
    ⟨some 6, .mv (.t 1), none, []⟩,
    ⟨some 7, .call (.v (.fn 35 [])) [.t 5, .t 6], none, []⟩])
  (.cond (.t 7) (.seq (.ops false [⟨some 8, .mv (.t 0), none, []⟩,
    ⟨some 9, .mv (.t 1), none, []⟩,
    ⟨some 10, .len true (.t 9), none, []⟩,
    ⟨some 11, .sls (.t 8) (some (.t 10)) none, none, []⟩,
    ⟨some 4, .mv (.t 11), none, []⟩])
  (.ret)) (.skip)))
  (.seq (.ops false [⟨some 12, .mv (.t 0), none, []⟩,
    ⟨some 4, .mv (.t 12), none, []⟩])
  (.ret)))
theorem run30 : Run 30 xc30 13 [.t 4] := run_of false Tryd.func30 rfl (by kernel_rfl) rfl rfl

/-- internal/strconv.ParseUint -/
noncomputable def xc31 : XC :=
  .seq (.ops false [⟨some 6, .mv (.v (.i .u64 0)), none, []⟩,
    ⟨some 7, .mv (.v (.ni)), none, []⟩])
  (.seq (.seq (.ops false [⟨some 18, .mv (.t 0), none, []⟩,
    ⟨some 19, .bin .eql (.t 18) (.v (.s [])), none, []⟩])
  (.cond (.t 19) (.seq (.ops false [⟨some 20, .mkif 67 (.v (.i .i64 2)), none, []⟩,
    ⟨some 6, .mv (.v (.i .u64 0)), none, []⟩,
    ⟨some 7, .mv (.t 20), none, []⟩])
  (.ret)) (.skip)))
  (.seq (.ops false [⟨some 21, .mv (.t 1), none, []⟩,
    ⟨some 22, .bin .eql (.t 21) (.v (.i .i64 0)), none, []⟩,
    ⟨some 8, .mv (.t 22), none, []⟩])
  (.seq (.ops false [⟨some 23, .mv (.t 0), none, []⟩,
    ⟨some 9, .mv (.t 23), none, []⟩])
  (.seq (.block 0 (.seq (.ops false [⟨some 26, .mv (.t 1), none, []⟩,
    ⟨some 27, .bin .leq (.v (.i .i64 2)) (.t 26), none, []⟩,
    ⟨some 28, .mv (.t 27), none, []⟩,
    ⟨some 29, .mv (.t 1), some (28, true), []⟩,
    ⟨some 30, .bin .leq (.t 29) (.v (.i .i64 36)), some (28, true), []⟩,
    ⟨some 31, .pick (.t 28) (.t 30) (.v (.b false)), none, []⟩,
    ⟨some 25, .mv (.t 31), none, []⟩])
  (.cond (.t 25) (.skip) (.seq (.ops false [⟨some 33, .mv (.t 1), none, []⟩,
    ⟨some 34, .bin .eql (.t 33) (.v (.i .i64 0)), none, []⟩,
    ⟨some 32, .mv (.t 34), none, []⟩])
  (.cond (.t 32) (.seq (.ops false [⟨some 1, .mv (.v (.i .i64 10)), none, []⟩])
  (.seq (.ops false [⟨some 35, .mv (.t 0), none, []⟩,
    ⟨some 36, .ixs (.t 35) (.v (.i .i64 0)), none, []⟩,
    ⟨some 37, .bin .eql (.t 36) (.v (.i .u8 48)), none, []⟩])
  (.cond (.t 37) (.block 1 (.seq (.ops false [⟨some 41, .mv (.t 0), none, []⟩,
    ⟨some 42, .len true (.t 41), none, []⟩,
    ⟨some 43, .bin .geq (.t 42) (.v (.i .i64 3)), none, []⟩,
    ⟨some 44, .mv (.t 43), none, []⟩,
    ⟨some 45, .mv (.t 0), some (44, true), []⟩,
    ⟨some 46, .ixs (.t 45) (.v (.i .i64 1)), some (44, true), []⟩,
    ⟨some 47, .call (.v (.fn 36 [])) [.t 46], some (44, true), []⟩,
    ⟨some 48, .bin .eql (.t 47) (.v (.i .u8 98)), some (44, true), []⟩,
    ⟨some 49, .pick (.t 44) (.t 48) (.v (.b false)), none, []⟩,
    ⟨some 40, .mv (.t 49), none, []⟩])
  (.cond (.t 40) (.seq (.ops false [⟨some 1, .mv (.v (.i .i64 2)), none, []⟩])
  (.ops false [⟨some 50, .mv (.t 0), none, []⟩,
    ⟨some 51, .sls (.t 50) (some (.v (.i .i64 2))) none, none, []⟩,
    ⟨some 0, .mv (.t 51), none, []⟩])) (.seq (.ops false [⟨some 53, .mv (.t 0), none, []⟩,
    ⟨some 54, .len true (.t 53), none, []⟩,
    ⟨some 55, .bin .geq (.t 54) (.v (.i .i64 3)), none, []⟩,
    ⟨some 56, .mv (.t 55), none, []⟩,
    ⟨some 57, .mv (.t 0), some (56, true), []⟩,
    ⟨some 58, .ixs (.t 57) (.v (.i .i64 1)), some (56, true), []⟩,
    ⟨some 59, .call (.v (.fn 36 [])) [.t 58], some (56, true), []⟩,
    ⟨some 60, .bin .eql (.t 59) (.v (.i .u8 111)), some (56, true), []⟩,
    ⟨some 61, .pick (.t 56) (.t 60) (.v (.b false)), none, []⟩,
    ⟨some 52, .mv (.t 61), none, []⟩])
  (.cond (.t 52) (.seq (.ops false [⟨some 1, .mv (.v (.i .i64 8)), none, []⟩])
  (.ops false [⟨some 62, .mv (.t 0), none, []⟩,
    ⟨some 63, .sls (.t 62) (some (.v (.i .i64 2))) none, none, []⟩,
    ⟨some 0, .mv (.t 63), none, []⟩])) (.seq (.ops false [⟨some 65, .mv (.t 0), none, []⟩,
    ⟨some 66, .len true (.t 65), none, []⟩,
    ⟨some 67, .bin .geq (.t 66) (.v (.i .i64 3)), none, []⟩,
    ⟨some 68, .mv (.t 67), none, []⟩,
    ⟨some 69, .mv (.t 0), some (68, true), []⟩,
    ⟨some 70, .ixs (.t 69) (.v (.i .i64 1)), some (68, true), []⟩,
    ⟨some 71, .call (.v (.fn 36 [])) [.t 70], some (68, true), []⟩,
    ⟨some 72, .bin .eql (.t 71) (.v (.i .u8 120)), some (68, true), []⟩,
    ⟨some 73, .pick (.t 68) (.t 72) (.v (.b false)), none, []⟩,
    ⟨some 64, .mv (.t 73), none, []⟩])
  (.cond (.t 64) (.seq (.ops false [⟨some 1, .mv (.v (.i .i64 16)), none, []⟩])
  (.ops false [⟨some 74, .mv (.t 0), none, []⟩,
    ⟨some 75, .sls (.t 74) (some (.v (.i .i64 2))) none, none, []⟩,
    ⟨some 0, .mv (.t 75), none, []⟩])) (.seq (.ops false [⟨some 1, .mv (.v (.i .i64 8)), none, []⟩])
  (.ops false [⟨some 38, .mv (.t 0), none, []⟩,
    ⟨some 39, .sls (.t 38) (some (.v (.i .i64 1))) none, none, []⟩,
    ⟨some 0, .mv (.t 39), none, []⟩]))))))))) (.skip)))) (.seq (.ops false [⟨some 24, .mkif 67 (.v (.i .i64 3)), none, []⟩,
    ⟨some 6, .mv (.v (.i .u64 0)), none, []⟩,
    ⟨some 7, .mv (.t 24), none, []⟩])
  (.ret)))))))
  (.seq (.seq (.ops false [⟨some 76, .mv (.t 2), none, []⟩,
    ⟨some 77, .bin .eql (.t 76) (.v (.i .i64 0)), none, []⟩])
  (.cond (.t 77) (.ops false [⟨some 2, .mv (.v (.i .i64 64)), none, []⟩]) (.seq (.ops false [⟨some 78, .mv (.t 2), none, []⟩,
    ⟨some 79, .bin .lss (.t 78) (.v (.i .i64 0)), none, []⟩,
    ⟨some 80, .mv (.t 79), none, []⟩,
    ⟨some 81, .mv (.t 2), some (80, false), []⟩,
    ⟨some 82, .bin .gtr (.t 81) (.v (.i .i64 64)), some (80, false), []⟩,
    ⟨some 83, .pick (.t 80) (.v (.b true)) (.t 82), none, []⟩])
  (.cond (.t 83) (.seq (.ops false [⟨some 84, .mkif 67 (.v (.i .i64 4)), none, []⟩,
    ⟨some 6, .mv (.v (.i .u64 0)), none, []⟩,
    ⟨some 7, .mv (.t 84), none, []⟩])
  (.ret)) (.skip)))))
  (.seq (.ops false [⟨some 10, .mv (.v (.i .u64 0)), none, []⟩])
  (.seq (.seq (.ops false [⟨some 85, .mv (.t 1), none, []⟩])
  (.block 2 (.seq (.ops false [⟨some 91, .bin .eql (.t 85) (.v (.i .i64 10)), none, []⟩,
    ⟨some 90, .mv (.t 91), none, []⟩])
  (.cond (.t 90) (.ops false [⟨some 10, .mv (.v (.i .u64 1844674407370955162)), none, []⟩]) (.seq (.ops false [⟨some 93, .bin .eql (.t 85) (.v (.i .i64 16)), none, []⟩,
    ⟨some 92, .mv (.t 93), none, []⟩])
  (.cond (.t 92) (.ops false [⟨some 10, .mv (.v (.i .u64 1152921504606846976)), none, []⟩]) (.ops false [⟨some 86, .mv (.t 1), none, []⟩,
    ⟨some 87, .ci .u64 (.t 86), none, []⟩,
    ⟨some 88, .bin .quo (.v (.i .u64 18446744073709551615)) (.t 87), none, []⟩,
    ⟨some 89, .bin .add (.t 88) (.v (.i .u64 1)), none, []⟩,
    ⟨some 10, .mv (.t 89), none, []⟩])))))))
  (.seq (.ops false [⟨some 94, .mv (.t 2), none, []⟩,
    ⟨some 95, .ci .u64 (.t 94), none, []⟩,
    ⟨some 96, .bin .shl (.v (.i .u64 1)) (.t 95), none, []⟩,
    ⟨some 97, .bin .sub (.t 96) (.v (.i .u64 1)), none, []⟩,
    ⟨some 11, .mv (.t 97), none, []⟩])
  (.seq (.ops false [⟨some 12, .mv (.v (.b false)), none, []⟩])
  (.seq (.ops false [⟨some 13, .mv (.v (.i .u64 0)), none, []⟩])
  (.seq (.seq (.ops false [⟨some 98, .mv (.t 0), none, []⟩,
    ⟨some 99, .s2b (.t 98), none, []⟩,
    ⟨some 100, .len false (.t 99), none, []⟩,
    ⟨some 101, .mv (.v (.i .i64 0)), none, []⟩])
  (.block 3 (.loop (.seq (.ops false [⟨some 102, .bin .lss (.t 101) (.t 100), none, []⟩])
  (.seq (.cond (.t 102) (.skip) (.exit 3))
  (.seq (.block 4 (.seq (.ops false [⟨some 103, .ia (.int .u8) (.t 99) (.t 101), none, []⟩,
    ⟨some 104, .ld (.t 103) 1 false, none, []⟩,
    ⟨some 15, .mv (.t 104), none, []⟩])
  (.seq (.ops false [⟨some 16, .mv (.v (.i .u8 0)), none, []⟩])
  (.seq (.block 5 (.seq (.ops false [⟨some 107, .mv (.t 15), none, []⟩,
    ⟨some 108, .bin .eql (.t 107) (.v (.i .u8 95)), none, []⟩,
    ⟨some 109, .mv (.t 108), none, []⟩,
    ⟨some 110, .mv (.t 8), some (109, true), []⟩,
    ⟨some 111, .pick (.t 109) (.t 110) (.v (.b false)), none, []⟩,
    ⟨some 106, .mv (.t 111), none, []⟩])
  (.cond (.t 106) (.seq (.ops false [⟨some 12, .mv (.v (.b true)), none, []⟩])
  (.exit 4)) (.seq (.ops false [⟨some 113, .mv (.t 15), none, []⟩,
    ⟨some 114, .bin .leq (.v (.i .u8 48)) (.t 113), none, []⟩,
    ⟨some 115, .mv (.t 114), none, []⟩,
    ⟨some 116, .mv (.t 15), some (115, true), []⟩,
    ⟨some 117, .bin .leq (.t 116) (.v (.i .u8 57)), some (115, true), []⟩,
    ⟨some 118, .pick (.t 115) (.t 117) (.v (.b false)), none, []⟩,
    ⟨some 112, .mv (.t 118), none, []⟩])
  (.cond (.t 112) (.ops false [⟨some 119, .mv (.t 15), none, []⟩,
    ⟨some 120, .bin .sub (.t 119) (.v (.i .u8 48)), none, []⟩,
    ⟨some 16, .mv (.t 120), none, []⟩]) (.seq (.ops false [⟨some 122, .mv (.t 15), none, []⟩,
    ⟨some 123, .call (.v (.fn 36 [])) [.t 122], none, []⟩,
    ⟨some 124, .bin .leq (.v (.i .u8 97)) (.t 123), none, []⟩,
    ⟨some 125, .mv (.t 124), none, []⟩,
    ⟨some 126, .mv (.t 15), some (125, true), []⟩,
    ⟨some 127, .call (.v (.fn 36 [])) [.t 126], some (125, true), []⟩,
    ⟨some 128, .bin .leq (.t 127) (.v (.i .u8 122)), some (125, true), []⟩,
    ⟨some 129, .pick (.t 125) (.t 128) (.v (.b false)), none, []⟩,
    ⟨some 121, .mv (.t 129), none, []⟩])
  (.cond (.t 121) (.ops false [⟨some 130, .mv (.t 15), none, []⟩,
    ⟨some 131, .call (.v (.fn 36 [])) [.t 130], none, []⟩,
    ⟨some 132, .bin .sub (.t 131) (.v (.i .u8 97)), none, []⟩,
    ⟨some 133, .bin .add (.t 132) (.v (.i .u8 10)), none, []⟩,
    ⟨some 16, .mv (.t 133), none, []⟩]) (.seq (.ops false [⟨some 105, .mkif 67 (.v (.i .i64 2)), none, []⟩,
    ⟨some 6, .mv (.v (.i .u64 0)), none, []⟩,
    ⟨some 7, .mv (.t 105), none, []⟩])
  (.ret)))))))))
  (.seq (.seq (.ops false [⟨some 134, .mv (.t 16), none, []⟩,
    ⟨some 135, .mv (.t 1), none, []⟩,
    ⟨some 136, .ci .u8 (.t 135), none, []⟩,
    ⟨some 137, .bin .geq (.t 134) (.t 136), none, []⟩])
  (.cond (.t 137) (.seq (.ops false [⟨some 138, .mkif 67 (.v (.i .i64 2)), none, []⟩,
    ⟨some 6, .mv (.v (.i .u64 0)), none, []⟩,
    ⟨some 7, .mv (.t 138), none, []⟩])
  (.ret)) (.skip)))
  (.seq (.seq (.ops false [⟨some 139, .mv (.t 13), none, []⟩,
    ⟨some 140, .mv (.t 10), none, []⟩,
    ⟨some 141, .bin .geq (.t 139) (.t 140), none, []⟩])
  (.cond (.t 141) (.seq (.ops false [⟨some 142, .mv (.t 11), none, []⟩,
    ⟨some 143, .mkif 67 (.v (.i .i64 1)), none, []⟩,
    ⟨some 6, .mv (.t 142), none, []⟩,
    ⟨some 7, .mv (.t 143), none, []⟩])
  (.ret)) (.skip)))
  (.seq (.ops false [⟨some 144, .mv (.t 13), none, []⟩,
    ⟨some 145, .mv (.t 1), none, []⟩,
    ⟨some 146, .ci .u64 (.t 145), none, []⟩,
    ⟨some 147, .bin .mul (.t 144) (.t 146), none, []⟩,
    ⟨some 13, .mv (.t 147), none, []⟩])
  (.seq (.ops false [⟨some 148, .mv (.t 13), none, []⟩,
    ⟨some 149, .mv (.t 16), none, []⟩,
    ⟨some 150, .ci .u64 (.t 149), none, []⟩,
    ⟨some 151, .bin .add (.t 148) (.t 150), none, []⟩,
    ⟨some 17, .mv (.t 151), none, []⟩])
  (.seq (.seq (.ops false [⟨some 152, .mv (.t 17), none, []⟩,
    ⟨some 153, .mv (.t 13), none, []⟩,
    ⟨some 154, .bin .lss (.t 152) (.t 153), none, []⟩,
    ⟨some 155, .mv (.t 154), none, []⟩,
    ⟨some 156, .mv (.t 17), some (155, false), []⟩,
    ⟨some 157, .mv (.t 11), some (155, false), []⟩,
    ⟨some 158, .bin .gtr (.t 156) (.t 157), some (155, false), []⟩,
    ⟨some 159, .pick (.t 155) (.v (.b true)) (.t 158), none, []⟩])
  (.cond (.t 159) (.seq (.ops false [⟨some 160, .mv (.t 11), none, []⟩,
    ⟨some 161, .mkif 67 (.v (.i .i64 1)), none, []⟩,
    ⟨some 6, .mv (.t 160), none, []⟩,
    ⟨some 7, .mv (.t 161), none, []⟩])
  (.ret)) (.skip)))
  (.ops false [⟨some 162, .mv (.t 17), none, []⟩,
    ⟨some 13, .mv (.t 162), none, []⟩]))))))))))
  (.ops false [⟨some 163, .bin .add (.t 101) (.v (.i .i64 1)), none, []⟩,
    ⟨some 101, .mv (.t 163), none, []⟩])))))))
  (.seq (.seq (.ops false [⟨some 164, .mv (.t 12), none, []⟩,
    ⟨some 165, .mv (.t 164), none, []⟩,
    ⟨some 166, .mv (.t 9), some (165, true), []⟩,
    ⟨some 167, .call (.v (.fn 37 [])) [.t 166], some (165, true), []⟩,
    ⟨some 168, .un .not (.t 167), some (165, true), []⟩,
    ⟨some 169, .pick (.t 165) (.t 168) (.v (.b false)), none, []⟩])
  (.cond (.t 169) (.seq (.ops false [⟨some 170, .mkif 67 (.v (.i .i64 2)), none, []⟩,
    ⟨some 6, .mv (.v (.i .u64 0)), none, []⟩,
    ⟨some 7, .mv (.t 170), none, []⟩])
  (.ret)) (.skip)))
  (.seq (.ops false [⟨some 171, .mv (.t 13), none, []⟩,
    ⟨some 6, .mv (.t 171), none, []⟩,
    ⟨some 7, .mv (.v (.ni)), none, []⟩])
  (.ret))))))))))))))
theorem run31 : Run 31 xc31 172 [.t 6, .t 7] := run_of false Tryd.func31 rfl (by kernel_rfl) rfl rfl

/-- strconv.toError -/
noncomputable def xc32 : XC :=
  .seq (.ops false [⟨some 10, .mv (.v (.ni)), none, []⟩])
  (.seq (.seq (.ops false [⟨some 11, .mv (.t 4), none, []⟩])
  (.block 0 (.seq (.ops false [⟨some 13, .mkif 67 (.v (.i .i64 2)), none, []⟩,
    ⟨some 14, .eqi false [(67, .i64)] (.t 11) (.t 13), none, []⟩,
    ⟨some 12, .mv (.t 14), none, []⟩])
  (.cond (.t 12) (.seq (.ops false [⟨some 15, .mv (.t 0), none, []⟩,
    ⟨some 16, .mv (.t 1), none, []⟩,
    ⟨some 17, .call (.v (.fn 38 [])) [.t 15, .t 16], none, []⟩,
    ⟨some 18, .mkif 71 (.t 17), none, []⟩,
    ⟨some 10, .mv (.t 18), none, []⟩])
  (.ret)) (.seq (.ops false [⟨some 20, .mkif 67 (.v (.i .i64 1)), none, []⟩,
    ⟨some 21, .eqi false [(67, .i64)] (.t 11) (.t 20), none, []⟩,
    ⟨some 19, .mv (.t 21), none, []⟩])
  (.cond (.t 19) (.seq (.ops false [⟨some 22, .mv (.t 0), none, []⟩,
    ⟨some 23, .mv (.t 1), none, []⟩,
    ⟨some 24, .call (.v (.fn 39 [])) [.t 22, .t 23], none, []⟩,
    ⟨some 25, .mkif 71 (.t 24), none, []⟩,
    ⟨some 10, .mv (.t 25), none, []⟩])
  (.ret)) (.seq (.ops false [⟨some 27, .mkif 67 (.v (.i .i64 3)), none, []⟩,
    ⟨some 28, .eqi false [(67, .i64)] (.t 11) (.t 27), none, []⟩,
    ⟨some 26, .mv (.t 28), none, []⟩])
  (.cond (.t 26) (.seq (.ops false [⟨some 29, .mv (.t 0), none, []⟩,
    ⟨some 30, .mv (.t 1), none, []⟩,
    ⟨some 31, .mv (.t 2), none, []⟩,
    ⟨some 32, .call (.v (.fn 40 [])) [.t 29, .t 30, .t 31], none, []⟩,
    ⟨some 33, .mkif 71 (.t 32), none, []⟩,
    ⟨some 10, .mv (.t 33), none, []⟩])
  (.ret)) (.seq (.ops false [⟨some 35, .mkif 67 (.v (.i .i64 4)), none, []⟩,
    ⟨some 36, .eqi false [(67, .i64)] (.t 11) (.t 35), none, []⟩,
    ⟨some 34, .mv (.t 36), none, []⟩])
  (.cond (.t 34) (.seq (.ops false [⟨some 37, .mv (.t 0), none, []⟩,
    ⟨some 38, .mv (.t 1), none, []⟩,
    ⟨some 39, .mv (.t 3), none, []⟩,
    ⟨some 40, .call (.v (.fn 41 [])) [.t 37, .t 38, .t 39], none, []⟩,
    ⟨some 41, .mkif 71 (.t 40), none, []⟩,
    ⟨some 10, .mv (.t 41), none, []⟩])
  (.ret)) (.skip)))))))))))
  (.seq (.ops false [⟨some 42, .mv (.t 4), none, []⟩,
    ⟨some 10, .mv (.t 42), none, []⟩])
  (.ret)))
theorem run32 : Run 32 xc32 43 [.t 10] := run_of false Tryd.func32 rfl (by kernel_rfl) rfl rfl

/-- internal/strconv.Itoa -/
noncomputable def xc33 : XC :=
  .seq (.ops false [⟨some 2, .mv (.v (.s [])), none, []⟩])
  (.seq (.ops false [⟨some 3, .mv (.t 0), none, []⟩,
    ⟨some 4, .call (.v (.fn 42 [])) [.t 3, .v (.i .i64 10)], none, []⟩,
    ⟨some 2, .mv (.t 4), none, []⟩])
  (.ret))
theorem run33 : Run 33 xc33 5 [.t 2] := run_of false Tryd.func33 rfl (by kernel_rfl) rfl rfl

/-- chantry/chantryref05.value -/
noncomputable def xc34 : XC :=
  .seq (.ops false [⟨some 2, .mv (.v (.i .u16 0)), none, []⟩])
  (.seq (.seq (.ops false [⟨some 5, .mv (.t 0), none, []⟩,
    ⟨some 6, .bin .gtr (.t 5) (.v (.i .u8 15)), none, []⟩])
  (.cond (.t 6) (.seq (.ops false [⟨some 2, .mv (.v (.i .u16 0)), none, []⟩])
  (.ret)) (.skip)))
  (.seq (.ops false [⟨some 3, .mv (.v (.i .u16 1)), none, []⟩])
  (.seq (.seq (.ops false [⟨some 4, .mv (.v (.i .i64 0)), none, []⟩])
  (.block 0 (.loop (.seq (.seq (.ops false [⟨some 7, .mv (.t 4), none, []⟩,
    ⟨some 8, .mv (.t 0), none, []⟩,
    ⟨some 9, .ci .i64 (.t 8), none, []⟩,
    ⟨some 10, .bin .lss (.t 7) (.t 9), none, []⟩])
  (.cond (.t 10) (.skip) (.exit 0)))
  (.seq (.block 1 (.ops false [⟨some 13, .mv (.t 3), none, []⟩,
    ⟨some 14, .bin .mul (.t 13) (.v (.i .u16 2)), none, []⟩,
    ⟨some 3, .mv (.t 14), none, []⟩]))
  (.ops false [⟨some 11, .mv (.t 4), none, []⟩,
    ⟨some 12, .bin .add (.t 11) (.v (.i .i64 1)), none, []⟩,
    ⟨some 4, .mv (.t 12), none, []⟩]))))))
  (.seq (.ops false [⟨some 15, .mv (.t 3), none, []⟩,
    ⟨some 2, .mv (.t 15), none, []⟩])
  (.ret)))))
theorem run34 : Run 34 xc34 16 [.t 2] := run_of false Tryd.func34 rfl (by kernel_rfl) rfl rfl

/-- internal/stringslite.HasPrefix -/
noncomputable def xc35 : XC :=
  .seq (.ops false [⟨some 4, .mv (.v (.b false)), none, []⟩])
  (.seq (.ops false [⟨some 5, .mv (.t 0), none, []⟩,
    ⟨some 6, .len true (.t 5), none, []⟩,
    ⟨some 7, .mv (.t 1), none, []⟩,
    ⟨some 8, .len true (.t 7), none, []⟩,
    ⟨some 9, .bin .geq (.t 6) (.t 8), none, []⟩,
    ⟨some 10, .mv (.t 9), none, []⟩,
    ⟨some 11, .mv (.t 0), some (10, true), []⟩,
    ⟨some 12, .mv (.t 1), some (10, true), []⟩,
    ⟨some 13, .len true (.t 12), some (10, true), []⟩,
    ⟨some 14, .sls (.t 11) none (some (.t 13)), some (10, true), []⟩,
    ⟨some 15, .mv (.t 1), some (10, true), []⟩,
    ⟨some 16, .bin .eql (.t 14) (.t 15), some (10, true), []⟩,
    ⟨some 17, .pick (.t 10) (.t 16) (.v (.b false)), none, []⟩,
    ⟨some 4, .mv (.t 17), none, []⟩])
  (.ret))
theorem run35 : Run 35 xc35 18 [.t 4] := run_of false Tryd.func35 rfl (by kernel_rfl) rfl rfl

/-- internal/strconv.lower -/
noncomputable def xc36 : XC :=
  .seq (.ops false [⟨some 2, .mv (.v (.i .u8 0)), none, []⟩])
  (.seq (.ops false [⟨some 3, .mv (.t 0), none, []⟩,
    ⟨some 4, .bin .or (.t 3) (.v (.i .u8 32)), none, []⟩,
    ⟨some 2, .mv (.t 4), none, []⟩])
  (.ret))
theorem run36 : Run 36 xc36 5 [.t 2] := run_of false Tryd.func36 rfl (by kernel_rfl) rfl rfl

/-- internal/strconv.underscoreOK -/
noncomputable def xc37 : XC :=
  .seq (.ops false [⟨some 2, .mv (.v (.b false)), none, []⟩])
  (.seq (.ops false [⟨some 3, .mv (.v (.i .i32 94)), none, []⟩])
  (.seq (.ops false [⟨some 4, .mv (.v (.i .i64 0)), none, []⟩])
  (.seq (.seq (.ops false [⟨some 6, .mv (.t 0), none, []⟩,
    ⟨some 7, .len true (.t 6), none, []⟩,
    ⟨some 8, .bin .geq (.t 7) (.v (.i .i64 1)), none, []⟩,
    ⟨some 9, .mv (.t 8), none, []⟩,
    ⟨some 10, .mv (.t 0), some (9, true), []⟩,
    ⟨some 11, .ixs (.t 10) (.v (.i .i64 0)), some (9, true), []⟩,
    ⟨some 12, .bin .eql (.t 11) (.v (.i .u8 45)), some (9, true), []⟩,
    ⟨some 13, .mv (.t 12), some (9, true), []⟩,
    ⟨some 14, .mv (.t 0), some (13, false), []⟩,
    ⟨some 15, .ixs (.t 14) (.v (.i .i64 0)), some (13, false), []⟩,
    ⟨some 16, .bin .eql (.t 15) (.v (.i .u8 43)), some (13, false), []⟩,
    ⟨some 17, .pick (.t 13) (.v (.b true)) (.t 16), some (9, true), []⟩,
    ⟨some 18, .pick (.t 9) (.t 17) (.v (.b false)), none, []⟩])
  (.cond (.t 18) (.ops false [⟨some 19, .mv (.t 0), none, []⟩,
    ⟨some 20, .sls (.t 19) (some (.v (.i .i64 1))) none, none, []⟩,
    ⟨some 0, .mv (.t 20), none, []⟩]) (.skip)))
  (.seq (.ops false [⟨some 5, .mv (.v (.b false)), none, []⟩])
  (.seq (.seq (.ops false [⟨some 21, .mv (.t 0), none, []⟩,
    ⟨some 22, .len true (.t 21), none, []⟩,
    ⟨some 23, .bin .geq (.t 22) (.v (.i .i64 2)), none, []⟩,
    ⟨some 24, .mv (.t 23), none, []⟩,
    ⟨some 25, .mv (.t 0), some (24, true), []⟩,
    ⟨some 26, .ixs (.t 25) (.v (.i .i64 0)), some (24, true), []⟩,
    ⟨some 27, .bin .eql (.t 26) (.v (.i .u8 48)), some (24, true), []⟩,
    ⟨some 28, .pick (.t 24) (.t 27) (.v (.b false)), none, []⟩,
    ⟨some 29, .mv (.t 28), none, []⟩,
    ⟨some 30, .mv (.t 0), some (29, true), []⟩,
    ⟨some 31, .ixs (.t 30) (.v (.i .i64 1)), some (29, true), []⟩,
    ⟨some 32, .call (.v (.fn 36 [])) [.t 31], some (29, true), []⟩,
    ⟨some 33, .bin .eql (.t 32) (.v (.i .u8 98)), some (29, true), []⟩,
    ⟨some 34, .mv (.t 33), some (29, true), []⟩,
    ⟨some 35, .mv (.t 0), some (34, false), []⟩,
    ⟨some 36, .ixs (.t 35) (.v (.i .i64 1)), some (34, false), []⟩,
    ⟨some 37, .call (.v (.fn 36 [])) [.t 36], some (34, false), []⟩,
    ⟨some 38, .bin .eql (.t 37) (.v (.i .u8 111)), some (34, false), []⟩,
    ⟨some 39, .pick (.t 34) (.v (.b true)) (.t 38), some (29, true), []⟩,
    ⟨some 40, .mv (.t 39), some (29, true), []⟩,
    ⟨some 41, .mv (.t 0), some (40, false), []⟩,
    ⟨some 42, .ixs (.t 41) (.v (.i .i64 1)), some (40, false), []⟩,
    ⟨some 43, .call (.v (.fn 36 [])) [.t 42], some (40, false), []⟩,
    ⟨some 44, .bin .eql (.t 43) (.v (.i .u8 120)), some (40, false), []⟩,
    ⟨some 45, .pick (.t 40) (.v (.b true)) (.t 44), some (29, true), []⟩,
    ⟨some 46, .pick (.t 29) (.t 45) (.v (.b false)), none, []⟩])
  (.cond (.t 46) (.seq (.ops false [⟨some 4, .mv (.v (.i .i64 2)), none, []⟩])
  (.seq (.ops false [⟨some 3, .mv (.v (.i .i32 48)), none, []⟩])
  (.ops false [⟨some 47, .mv (.t 0), none, []⟩,
    ⟨some 48, .ixs (.t 47) (.v (.i .i64 1)), none, []⟩,
    ⟨some 49, .call (.v (.fn 36 [])) [.t 48], none, []⟩,
    ⟨some 50, .bin .eql (.t 49) (.v (.i .u8 120)), none, []⟩,
    ⟨some 5, .mv (.t 50), none, []⟩]))) (.skip)))
  (.seq (.block 0 (.loop (.seq (.seq (.ops false [⟨some 51, .mv (.t 4), none, []⟩,
    ⟨some 52, .mv (.t 0), none, []⟩,
    ⟨some 53, .len true (.t 52), none, []⟩,
    ⟨some 54, .bin .lss (.t 51) (.t 53), none, []⟩])
  (.cond (.t 54) (.skip) (.exit 0)))
  (.seq (.block 1 (.seq (.seq (.ops false [⟨some 57, .mv (.t 0), none, []⟩,
    ⟨some 58, .mv (.t 4), none, []⟩,
    ⟨some 59, .ixs (.t 57) (.t 58), none, []⟩,
    ⟨some 60, .bin .leq (.v (.i .u8 48)) (.t 59), none, []⟩,
    ⟨some 61, .mv (.t 60), none, []⟩,
    ⟨some 62, .mv (.t 0), some (61, true), []⟩,
    ⟨some 63, .mv (.t 4), some (61, true), []⟩,
    ⟨some 64, .ixs (.t 62) (.t 63), some (61, true), []⟩,
    ⟨some 65, .bin .leq (.t 64) (.v (.i .u8 57)), some (61, true), []⟩,
    ⟨some 66, .pick (.t 61) (.t 65) (.v (.b false)), none, []⟩,
    ⟨some 67, .mv (.t 66), none, []⟩,
    ⟨some 68, .mv (.t 5), some (67, false), []⟩,
    ⟨some 69, .mv (.t 68), some (67, false), []⟩,
    ⟨some 70, .mv (.t 0), some (69, true), []⟩,
    ⟨some 71, .mv (.t 4), some (69, true), []⟩,
    ⟨some 72, .ixs (.t 70) (.t 71), some (69, true), []⟩,
    ⟨some 73, .call (.v (.fn 36 [])) [.t 72], some (69, true), []⟩,
    ⟨some 74, .bin .leq (.v (.i .u8 97)) (.t 73), some (69, true), []⟩,
    ⟨some 75, .pick (.t 69) (.t 74) (.v (.b false)), some (67, false), []⟩,
    ⟨some 76, .mv (.t 75), some (67, false), []⟩,
    ⟨some 77, .mv (.t 0), some (76, true), []⟩,
    ⟨some 78, .mv (.t 4), some (76, true), []⟩,
    ⟨some 79, .ixs (.t 77) (.t 78), some (76, true), []⟩,
    ⟨some 80, .call (.v (.fn 36 [])) [.t 79], some (76, true), []⟩,
    ⟨some 81, .bin .leq (.t 80) (.v (.i .u8 102)), some (76, true), []⟩,
    ⟨some 82, .pick (.t 76) (.t 81) (.v (.b false)), some (67, false), []⟩,
    ⟨some 83, .pick (.t 67) (.v (.b true)) (.t 82), none, []⟩])
  (.cond (.t 83) (.seq (.ops false [⟨some 3, .mv (.v (.i .i32 48)), none, []⟩])
  (.exit 1)) (.skip)))
  (.seq (.seq (.ops false [⟨some 84, .mv (.t 0), none, []⟩,
    ⟨some 85, .mv (.t 4), none, []⟩,
    ⟨some 86, .ixs (.t 84) (.t 85), none, []⟩,
    ⟨some 87, .bin .eql (.t 86) (.v (.i .u8 95)), none, []⟩])
  (.cond (.t 87) (.seq (.seq (.ops false [⟨some 88, .mv (.t 3), none, []⟩,
    ⟨some 89, .bin .neq (.t 88) (.v (.i .i32 48)), none, []⟩])
  (.cond (.t 89) (.seq (.ops false [⟨some 2, .mv (.v (.b false)), none, []⟩])
  (.ret)) (.skip)))
  (.seq (.ops false [⟨some 3, .mv (.v (.i .i32 95)), none, []⟩])
  (.exit 1))) (.skip)))
  (.seq (.seq (.ops false [⟨some 90, .mv (.t 3), none, []⟩,
    ⟨some 91, .bin .eql (.t 90) (.v (.i .i32 95)), none, []⟩])
  (.cond (.t 91) (.seq (.ops false [⟨some 2, .mv (.v (.b false)), none, []⟩])
  (.ret)) (.skip)))
  (.ops false [⟨some 3, .mv (.v (.i .i32 33)), none, []⟩])))))
  (.ops false [⟨some 55, .mv (.t 4), none, []⟩,
    ⟨some 56, .bin .add (.t 55) (.v (.i .i64 1)), none, []⟩,
    ⟨some 4, .mv (.t 56), none, []⟩])))))
  (.seq (.ops false [⟨some 92, .mv (.t 3), none, []⟩,
    ⟨some 93, .bin .neq (.t 92) (.v (.i .i32 95)), none, []⟩,
    ⟨some 2, .mv (.t 93), none, []⟩])
  (.ret))))))))
theorem run37 : Run 37 xc37 94 [.t 2] := run_of false Tryd.func37 rfl (by kernel_rfl) rfl rfl

/-- strconv.syntaxError -/
noncomputable def xc38 : XC :=
  .seq (.ops false [⟨some 4, .mv (.v (.np)), none, []⟩])
  (.seq (.ops true [⟨some 5, .mv (.t 0), none, []⟩,
    ⟨some 6, .mv (.t 1), none, []⟩,
    ⟨some 7, .call (.v (.fn 43 [])) [.t 6], none, [1]⟩,
    ⟨some 8, .ld (.v (.pi [.ifc 85 .junk])) 1 false, none, []⟩,
    ⟨some 9, .bld [.s [], .s [], .ni] [(0, 1, .t 5), (1, 1, .t 7), (2, 1, .t 8)], none, [0, 2, 1, 3]⟩,
    ⟨some 10, .box (.t 9), none, [4, 0, 2, 1, 3]⟩,
    ⟨some 4, .mv (.t 10), none, [5, 4, 0, 2, 1, 3]⟩])
  (.ret))
theorem run38 : Run 38 xc38 11 [.t 4] := run_of false Tryd.func38 rfl (by kernel_rfl) rfl rfl

/-- strconv.rangeError -/
noncomputable def xc39 : XC :=
  .seq (.ops false [⟨some 4, .mv (.v (.np)), none, []⟩])
  (.seq (.ops true [⟨some 5, .mv (.t 0), none, []⟩,
    ⟨some 6, .mv (.t 1), none, []⟩,
    ⟨some 7, .call (.v (.fn 43 [])) [.t 6], none, [1]⟩,
    ⟨some 8, .ld (.v (.pi [.ifc 85 .junk])) 1 false, none, []⟩,
    ⟨some 9, .bld [.s [], .s [], .ni] [(0, 1, .t 5), (1, 1, .t 7), (2, 1, .t 8)], none, [0, 2, 1, 3]⟩,
    ⟨some 10, .box (.t 9), none, [4, 0, 2, 1, 3]⟩,
    ⟨some 4, .mv (.t 10), none, [5, 4, 0, 2, 1, 3]⟩])
  (.ret))
theorem run39 : Run 39 xc39 11 [.t 4] := run_of false Tryd.func39 rfl (by kernel_rfl) rfl rfl

/-- strconv.baseError -/
noncomputable def xc40 : XC :=
  .seq (.ops false [⟨some 6, .mv (.v (.np)), none, []⟩])
  (.seq (.ops false [⟨some 7, .mv (.t 0), none, []⟩,
    ⟨some 8, .mv (.t 1), none, []⟩,
    ⟨some 9, .call (.v (.fn 43 [])) [.t 8], none, []⟩,
    ⟨some 10, .mv (.t 2), none, []⟩,
    ⟨some 11, .call (.v (.fn 24 [])) [.t 10], none, []⟩,
    ⟨some 12, .bin .add (.v (.s [105, 110, 118, 97, 108, 105, 100, 32, 98, 97, 115, 101, 32])) (.t 11), none, []⟩,
    ⟨some 13, .call (.v (.fn 44 [])) [.t 12], none, []⟩,
    ⟨some 14, .bld [.s [], .s [], .ni] [(0, 1, .t 7), (1, 1, .t 9), (2, 1, .t 13)], none, []⟩,
    ⟨some 15, .box (.t 14), none, []⟩,
    ⟨some 6, .mv (.t 15), none, []⟩])
  (.ret))
theorem run40 : Run 40 xc40 16 [.t 6] := run_of false Tryd.func40 rfl (by kernel_rfl) rfl rfl

/-- strconv.bitSizeError -/
noncomputable def xc41 : XC :=
  .seq (.ops false [⟨some 6, .mv (.v (.np)), none, []⟩])
  (.seq (.ops false [⟨some 7, .mv (.t 0), none, []⟩,
    ⟨some 8, .mv (.t 1), none, []⟩,
    ⟨some 9, .call (.v (.fn 43 [])) [.t 8], none, []⟩,
    ⟨some 10, .mv (.t 2), none, []⟩,
    ⟨some 11, .call (.v (.fn 24 [])) [.t 10], none, []⟩,
    ⟨some 12, .bin .add (.v (.s [105, 110, 118, 97, 108, 105, 100, 32, 98, 105, 116, 32, 115, 105, 122, 101, 32])) (.t 11), none, []⟩,
    ⟨some 13, .call (.v (.fn 44 [])) [.t 12], none, []⟩,
    ⟨some 14, .bld [.s [], .s [], .ni] [(0, 1, .t 7), (1, 1, .t 9), (2, 1, .t 13)], none, []⟩,
    ⟨some 15, .box (.t 14), none, []⟩,
    ⟨some 6, .mv (.t 15), none, []⟩])
  (.ret))
theorem run41 : Run 41 xc41 16 [.t 6] := run_of false Tryd.func41 rfl (by kernel_rfl) rfl rfl

/-- internal/strconv.FormatInt -/
noncomputable def xc42 : XC :=
  .seq (.ops false [⟨some 4, .mv (.v (.s [])), none, []⟩])
  (.seq (.seq (.ops false [⟨some 10, .mv (.t 1), none, []⟩,
    ⟨some 11, .bin .eql (.t 10) (.v (.i .i64 10)), none, []⟩])
  (.cond (.t 11) (.seq (.seq (.ops false [⟨some 12, .mv (.t 0), none, []⟩,
    ⟨some 13, .bin .leq (.v (.i .i64 0)) (.t 12), none, []⟩,
    ⟨some 14, .mv (.t 13), none, []⟩,
    ⟨some 15, .mv (.t 0), some (14, true), []⟩,
    ⟨some 16, .bin .lss (.t 15) (.v (.i .i64 100)), some (14, true), []⟩,
    ⟨some 17, .pick (.t 14) (.t 16) (.v (.b false)), none, []⟩])
  (.cond (.t 17) (.seq (.ops false [⟨some 18, .mv (.t 0), none, []⟩,
    ⟨some 19, .call (.v (.fn 45 [])) [.t 18], none, []⟩,
    ⟨some 4, .mv (.t 19), none, []⟩])
  (.ret)) (.skip)))
  (.seq (.ops false [⟨some 5, .new [.ar (.int .u8) 24 (List.replicate 24 (0 : Int))], none, []⟩])
  (.seq (.ops false [⟨some 20, .mv (.t 0), none, []⟩,
    ⟨some 21, .ci .u64 (.t 20), none, []⟩,
    ⟨some 6, .mv (.t 21), none, []⟩])
  (.seq (.seq (.ops false [⟨some 22, .mv (.t 0), none, []⟩,
    ⟨some 23, .bin .lss (.t 22) (.v (.i .i64 0)), none, []⟩])
  (.cond (.t 23) (.ops false [⟨some 24, .mv (.t 6), none, []⟩,
    ⟨some 25, .un .neg (.t 24), none, []⟩,
    ⟨some 6, .mv (.t 25), none, []⟩]) (.skip)))
  (.seq (.ops false [⟨some 26, .mv (.t 6), none, []⟩,
    ⟨some 27, .call (.v (.fn 46 [])) [.t 26], none, []⟩,
    ⟨some 7, .mv (.t 27), none, []⟩])
  (.seq (.bad)
  (.seq (.seq (.ops false [⟨some 33, .mv (.t 0), none, []⟩,
    ⟨some 34, .bin .lss (.t 33) (.v (.i .i64 0)), none, []⟩])
  (.cond (.t 34) (.seq (.ops false [⟨some 35, .iap 24 (.int .u8) (.t 5) (.v (.i .i64 0)), none, []⟩,
    ⟨none, .st (.t 35) (.v (.i .u8 45)) 1, none, []⟩])
  (.seq (.bad)
  (.ret))) (.skip)))
  (.seq (.bad)
  (.ret))))))))) (.skip)))
  (.seq (.ops false [⟨some 45, .mv (.t 0), none, []⟩,
    ⟨some 46, .ci .u64 (.t 45), none, []⟩,
    ⟨some 47, .mv (.t 1), none, []⟩,
    ⟨some 48, .mv (.t 0), none, []⟩,
    ⟨some 49, .bin .lss (.t 48) (.v (.i .i64 0)), none, []⟩,
    ⟨some 50, .call (.v (.fn 48 [])) [.v (.ns), .t 46, .t 47, .t 49, .v (.b false)], none, []⟩,
    ⟨some 44, .mv (.t 50), none, []⟩,
    ⟨some 51, .ext (.t 44) 0, none, []⟩,
    ⟨some 52, .ext (.t 44) 1, none, []⟩,
    ⟨some 8, .mv (.t 51), none, []⟩,
    ⟨some 9, .mv (.t 52), none, []⟩])
  (.seq (.ops false [⟨some 53, .mv (.t 9), none, []⟩,
    ⟨some 4, .mv (.t 53), none, []⟩])
  (.ret))))
theorem run42 : Run 42 xc42 54 [.t 4] := run_of false Tryd.func42 rfl (by kernel_rfl) rfl rfl

/-- internal/stringslite.Clone -/
noncomputable def xc43 : XC :=
  .seq (.ops false [⟨some 2, .mv (.v (.s [])), none, []⟩])
  (.seq (.seq (.ops false [⟨some 4, .mv (.t 0), none, []⟩,
    ⟨some 5, .len true (.t 4), none, []⟩,
    ⟨some 6, .bin .eql (.t 5) (.v (.i .i64 0)), none, []⟩])
  (.cond (.t 6) (.seq (.ops false [⟨some 2, .mv (.v (.s [])), none, []⟩])
  (.ret)) (.skip)))
  (.seq (.ops false [⟨some 7, .mv (.t 0), none, []⟩,
    ⟨some 8, .len true (.t 7), none, []⟩,
    ⟨some 9, .mks (.int .u8) (0 : Int) (.t 8), none, []⟩,
    ⟨some 3, .mv (.t 9), none, []⟩])
  (.seq (.ops false [⟨some 10, .mv (.t 3), none, []⟩,
    ⟨some 11, .mv (.t 0), none, []⟩,
    ⟨some 12, .cpy (.int .u8) (.t 10) (.t 11), none, []⟩])
  (.seq (.ops false [⟨some 13, .mv (.t 3), none, []⟩,
    ⟨some 14, .ia (.int .u8) (.t 13) (.v (.i .i64 0)), none, []⟩,
    ⟨some 15, .mv (.t 3), none, []⟩,
    ⟨some 16, .len false (.t 15), none, []⟩,
    ⟨some 17, .ust (.t 14) (.t 16), none, []⟩,
    ⟨some 2, .mv (.t 17), none, []⟩])
  (.ret)))))
theorem run43 : Run 43 xc43 18 [.t 2] := run_of false Tryd.func43 rfl (by kernel_rfl) rfl rfl

/-- errors.New -/
noncomputable def xc44 : XC :=
  .seq (.ops false [⟨some 2, .mv (.v (.ni)), none, []⟩])
  (.seq (.ops false [⟨some 3, .mv (.t 0), none, []⟩,
    ⟨some 4, .bld [.s []] [(0, 1, .t 3)], none, []⟩,
    ⟨some 5, .box (.t 4), none, []⟩,
    ⟨some 6, .mkif 85 (.t 5), none, []⟩,
    ⟨some 2, .mv (.t 6), none, []⟩])
  (.ret))
theorem run44 : Run 44 xc44 7 [.t 2] := run_of false Tryd.func44 rfl (by kernel_rfl) rfl rfl

/-- internal/strconv.small -/
noncomputable def xc45 : XC :=
  .seq (.ops false [⟨some 2, .mv (.v (.s [])), none, []⟩])
  (.seq (.seq (.ops false [⟨some 3, .mv (.t 0), none, []⟩,
    ⟨some 4, .bin .lss (.t 3) (.v (.i .i64 10)), none, []⟩])
  (.cond (.t 4) (.seq (.ops false [⟨some 5, .mv (.t 0), none, []⟩,
    ⟨some 6, .mv (.t 0), none, []⟩,
    ⟨some 7, .bin .add (.t 6) (.v (.i .i64 1)), none, []⟩,
    ⟨some 8, .sls (.v (.s [48, 49, 50, 51, 52, 53, 54, 55, 56, 57, 97, 98, 99, 100, 101, 102, 103, 104, 105, 106, 107, 108, 109, 110, 111, 112, 113, 114, 115, 116, 117, 118, 119, 120, 121, 122])) (some (.t 5)) (some (.t 7)), none, []⟩,
    ⟨some 2, .mv (.t 8), none, []⟩])
  (.ret)) (.skip)))
  (.seq (.ops false [⟨some 9, .mv (.t 0), none, []⟩,
    ⟨some 10, .bin .mul (.t 9) (.v (.i .i64 2)), none, []⟩,
    ⟨some 11, .mv (.t 0), none, []⟩,
    ⟨some 12, .bin .mul (.t 11) (.v (.i .i64 2)), none, []⟩,
    ⟨some 13, .bin .add (.t 12) (.v (.i .i64 2)), none, []⟩,
    ⟨some 14, .sls (.v (.s [48, 48, 48, 49, 48, 50, 48, 51, 48, 52, 48, 53, 48, 54, 48, 55, 48, 56, 48, 57, 49, 48, 49, 49, 49, 50, 49, 51, 49, 52, 49, 53, 49, 54, 49, 55, 49, 56, 49, 57, 50, 48, 50, 49, 50, 50, 50, 51, 50, 52, 50, 53, 50, 54, 50, 55, 50, 56, 50, 57, 51, 48, 51, 49, 51, 50, 51, 51, 51, 52, 51, 53, 51, 54, 51, 55, 51, 56, 51, 57, 52, 48, 52, 49, 52, 50, 52, 51, 52, 52, 52, 53, 52, 54, 52, 55, 52, 56, 52, 57, 53, 48, 53, 49, 53, 50, 53, 51, 53, 52, 53, 53, 53, 54, 53, 55, 53, 56, 53, 57, 54, 48, 54, 49, 54, 50, 54, 51, 54, 52, 54, 53, 54, 54, 54, 55, 54, 56, 54, 57, 55, 48, 55, 49, 55, 50, 55, 51, 55, 52, 55, 53, 55, 54, 55, 55, 55, 56, 55, 57, 56, 48, 56, 49, 56, 50, 56, 51, 56, 52, 56, 53, 56, 54, 56, 55, 56, 56, 56, 57, 57, 48, 57, 49, 57, 50, 57, 51, 57, 52, 57, 53, 57, 54, 57, 55, 57, 56, 57, 57])) (some (.t 10)) (some (.t 13)), none, []⟩,
    ⟨some 2, .mv (.t 14), none, []⟩])
  (.ret)))
theorem run45 : Run 45 xc45 15 [.t 2] := run_of false Tryd.func45 rfl (by kernel_rfl) rfl rfl

/-- internal/strconv.numDigits -/
noncomputable def xc46 : XC :=
  .seq (.ops false [⟨some 2, .mv (.v (.i .i64 0)), none, []⟩])
  (.seq (.ops false [⟨some 4, .mv (.t 0), none, []⟩,
    ⟨some 5, .call (.v (.fn 50 [])) [.t 4], none, []⟩,
    ⟨some 6, .call (.v (.fn 49 [])) [.t 5], none, []⟩,
    ⟨some 3, .mv (.t 6), none, []⟩])
  (.seq (.bad)
  (.ret)))
theorem run46 : Run 46 xc46 15 [.t 2] := run_of false Tryd.func46 rfl (by kernel_rfl) rfl rfl

/-- internal/strconv.formatBase10 -/
noncomputable def xc47 : XC :=
  .seq (.ops false [⟨some 17, .mv (.t 0), none, []⟩,
    ⟨some 18, .len false (.t 17), none, []⟩,
    ⟨some 4, .mv (.t 18), none, []⟩])
  (.seq (.block 0 (.loop (.seq (.seq (.ops false [⟨some 19, .mv (.t 4), none, []⟩,
    ⟨some 20, .bin .geq (.t 19) (.v (.i .i64 8)), none, []⟩])
  (.cond (.t 20) (.skip) (.exit 0)))
  (.block 1 (.seq (.ops false [⟨some 21, .mv (.t 1), none, []⟩,
    ⟨some 22, .bin .rem (.t 21) (.v (.i .u64 100000000)), none, []⟩,
    ⟨some 23, .ci .u32 (.t 22), none, []⟩,
    ⟨some 5, .mv (.t 23), none, []⟩])
  (.seq (.ops false [⟨some 24, .mv (.t 1), none, []⟩,
    ⟨some 25, .bin .quo (.t 24) (.v (.i .u64 100000000)), none, []⟩,
    ⟨some 1, .mv (.t 25), none, []⟩])
  (.seq (.ops false [⟨some 26, .mv (.t 5), none, []⟩,
    ⟨some 27, .bin .quo (.t 26) (.v (.i .u32 10000)), none, []⟩,
    ⟨some 28, .mv (.t 5), none, []⟩,
    ⟨some 29, .bin .rem (.t 28) (.v (.i .u32 10000)), none, []⟩,
    ⟨some 6, .mv (.t 27), none, []⟩,
    ⟨some 7, .mv (.t 29), none, []⟩])
  (.seq (.ops false [⟨some 30, .mv (.t 7), none, []⟩,
    ⟨some 31, .bin .quo (.t 30) (.v (.i .u32 100)), none, []⟩,
    ⟨some 32, .bin .mul (.t 31) (.v (.i .u32 2)), none, []⟩,
    ⟨some 33, .mv (.t 7), none, []⟩,
    ⟨some 34, .bin .rem (.t 33) (.v (.i .u32 100)), none, []⟩,
    ⟨some 35, .bin .mul (.t 34) (.v (.i .u32 2)), none, []⟩,
    ⟨some 8, .mv (.t 32), none, []⟩,
    ⟨some 9, .mv (.t 35), none, []⟩])
  (.seq (.ops false [⟨some 36, .mv (.t 6), none, []⟩,
    ⟨some 37, .bin .quo (.t 36) (.v (.i .u32 100)), none, []⟩,
    ⟨some 38, .bin .mul (.t 37) (.v (.i .u32 2)), none, []⟩,
    ⟨some 39, .mv (.t 6), none, []⟩,
    ⟨some 40, .bin .rem (.t 39) (.v (.i .u32 100)), none, []⟩,
    ⟨some 41, .bin .mul (.t 40) (.v (.i .u32 2)), none, []⟩,
    ⟨some 10, .mv (.t 38), none, []⟩,
    ⟨some 11, .mv (.t 41), none, []⟩])
  (.seq (.ops true [⟨some 42, .mv (.t 0), none, []⟩,
    ⟨some 43, .mv (.t 4), none, []⟩,
    ⟨some 44, .bin .sub (.t 43) (.v (.i .i64 1)), none, [1]⟩,
    ⟨some 45, .mv (.t 0), none, []⟩,
    ⟨some 46, .mv (.t 4), none, []⟩,
    ⟨some 47, .bin .sub (.t 46) (.v (.i .i64 2)), none, [4]⟩,
    ⟨some 48, .mv (.t 9), none, []⟩,
    ⟨some 49, .bin .add (.t 48) (.v (.i .u32 1)), none, [6]⟩,
    ⟨some 50, .ixs (.v (.s [48, 48, 48, 49, 48, 50, 48, 51, 48, 52, 48, 53, 48, 54, 48, 55, 48, 56, 48, 57, 49, 48, 49, 49, 49, 50, 49, 51, 49, 52, 49, 53, 49, 54, 49, 55, 49, 56, 49, 57, 50, 48, 50, 49, 50, 50, 50, 51, 50, 52, 50, 53, 50, 54, 50, 55, 50, 56, 50, 57, 51, 48, 51, 49, 51, 50, 51, 51, 51, 52, 51, 53, 51, 54, 51, 55, 51, 56, 51, 57, 52, 48, 52, 49, 52, 50, 52, 51, 52, 52, 52, 53, 52, 54, 52, 55, 52, 56, 52, 57, 53, 48, 53, 49, 53, 50, 53, 51, 53, 52, 53, 53, 53, 54, 53, 55, 53, 56, 53, 57, 54, 48, 54, 49, 54, 50, 54, 51, 54, 52, 54, 53, 54, 54, 54, 55, 54, 56, 54, 57, 55, 48, 55, 49, 55, 50, 55, 51, 55, 52, 55, 53, 55, 54, 55, 55, 55, 56, 55, 57, 56, 48, 56, 49, 56, 50, 56, 51, 56, 52, 56, 53, 56, 54, 56, 55, 56, 56, 56, 57, 57, 48, 57, 49, 57, 50, 57, 51, 57, 52, 57, 53, 57, 54, 57, 55, 57, 56, 57, 57])) (.t 49), none, [7, 6]⟩,
    ⟨some 51, .mv (.t 9), none, []⟩,
    ⟨some 52, .ixs (.v (.s [48, 48, 48, 49, 48, 50, 48, 51, 48, 52, 48, 53, 48, 54, 48, 55, 48, 56, 48, 57, 49, 48, 49, 49, 49, 50, 49, 51, 49, 52, 49, 53, 49, 54, 49, 55, 49, 56, 49, 57, 50, 48, 50, 49, 50, 50, 50, 51, 50, 52, 50, 53, 50, 54, 50, 55, 50, 56, 50, 57, 51, 48, 51, 49, 51, 50, 51, 51, 51, 52, 51, 53, 51, 54, 51, 55, 51, 56, 51, 57, 52, 48, 52, 49, 52, 50, 52, 51, 52, 52, 52, 53, 52, 54, 52, 55, 52, 56, 52, 57, 53, 48, 53, 49, 53, 50, 53, 51, 53, 52, 53, 53, 53, 54, 53, 55, 53, 56, 53, 57, 54, 48, 54, 49, 54, 50, 54, 51, 54, 52, 54, 53, 54, 54, 54, 55, 54, 56, 54, 57, 55, 48, 55, 49, 55, 50, 55, 51, 55, 52, 55, 53, 55, 54, 55, 55, 55, 56, 55, 57, 56, 48, 56, 49, 56, 50, 56, 51, 56, 52, 56, 53, 56, 54, 56, 55, 56, 56, 56, 57, 57, 48, 57, 49, 57, 50, 57, 51, 57, 52, 57, 53, 57, 54, 57, 55, 57, 56, 57, 57])) (.t 51), none, [9]⟩,
    ⟨some 53, .ia (.int .u8) (.t 42) (.t 44), none, [0, 2, 1, 6, 7, 8]⟩,
    ⟨none, .st (.t 53) (.t 50) 1, none, [11, 0, 2, 1, 6, 7, 8]⟩,
    ⟨some 54, .ia (.int .u8) (.t 45) (.t 47), none, [3, 5, 4, 0, 1, 2, 6, 7, 8, 9, 10, 11, 12]⟩,
    ⟨none, .st (.t 54) (.t 52) 1, none, [13, 3, 5, 4, 0, 1, 2, 6, 7, 8, 9, 10, 11, 12]⟩])
  (.seq (.ops true [⟨some 55, .mv (.t 0), none, []⟩,
    ⟨some 56, .mv (.t 4), none, []⟩,
    ⟨some 57, .bin .sub (.t 56) (.v (.i .i64 3)), none, [1]⟩,
    ⟨some 58, .mv (.t 0), none, []⟩,
    ⟨some 59, .mv (.t 4), none, []⟩,
    ⟨some 60, .bin .sub (.t 59) (.v (.i .i64 4)), none, [4]⟩,
    ⟨some 61, .mv (.t 8), none, []⟩,
    ⟨some 62, .bin .add (.t 61) (.v (.i .u32 1)), none, [6]⟩,
    ⟨some 63, .ixs (.v (.s [48, 48, 48, 49, 48, 50, 48, 51, 48, 52, 48, 53, 48, 54, 48, 55, 48, 56, 48, 57, 49, 48, 49, 49, 49, 50, 49, 51, 49, 52, 49, 53, 49, 54, 49, 55, 49, 56, 49, 57, 50, 48, 50, 49, 50, 50, 50, 51, 50, 52, 50, 53, 50, 54, 50, 55, 50, 56, 50, 57, 51, 48, 51, 49, 51, 50, 51, 51, 51, 52, 51, 53, 51, 54, 51, 55, 51, 56, 51, 57, 52, 48, 52, 49, 52, 50, 52, 51, 52, 52, 52, 53, 52, 54, 52, 55, 52, 56, 52, 57, 53, 48, 53, 49, 53, 50, 53, 51, 53, 52, 53, 53, 53, 54, 53, 55, 53, 56, 53, 57, 54, 48, 54, 49, 54, 50, 54, 51, 54, 52, 54, 53, 54, 54, 54, 55, 54, 56, 54, 57, 55, 48, 55, 49, 55, 50, 55, 51, 55, 52, 55, 53, 55, 54, 55, 55, 55, 56, 55, 57, 56, 48, 56, 49, 56, 50, 56, 51, 56, 52, 56, 53, 56, 54, 56, 55, 56, 56, 56, 57, 57, 48, 57, 49, 57, 50, 57, 51, 57, 52, 57, 53, 57, 54, 57, 55, 57, 56, 57, 57])) (.t 62), none, [7, 6]⟩,
    ⟨some 64, .mv (.t 8), none, []⟩,
    ⟨some 65, .ixs (.v (.s [48, 48, 48, 49, 48, 50, 48, 51, 48, 52, 48, 53, 48, 54, 48, 55, 48, 56, 48, 57, 49, 48, 49, 49, 49, 50, 49, 51, 49, 52, 49, 53, 49, 54, 49, 55, 49, 56, 49, 57, 50, 48, 50, 49, 50, 50, 50, 51, 50, 52, 50, 53, 50, 54, 50, 55, 50, 56, 50, 57, 51, 48, 51, 49, 51, 50, 51, 51, 51, 52, 51, 53, 51, 54, 51, 55, 51, 56, 51, 57, 52, 48, 52, 49, 52, 50, 52, 51, 52, 52, 52, 53, 52, 54, 52, 55, 52, 56, 52, 57, 53, 48, 53, 49, 53, 50, 53, 51, 53, 52, 53, 53, 53, 54, 53, 55, 53, 56, 53, 57, 54, 48, 54, 49, 54, 50, 54, 51, 54, 52, 54, 53, 54, 54, 54, 55, 54, 56, 54, 57, 55, 48, 55, 49, 55, 50, 55, 51, 55, 52, 55, 53, 55, 54, 55, 55, 55, 56, 55, 57, 56, 48, 56, 49, 56, 50, 56, 51, 56, 52, 56, 53, 56, 54, 56, 55, 56, 56, 56, 57, 57, 48, 57, 49, 57, 50, 57, 51, 57, 52, 57, 53, 57, 54, 57, 55, 57, 56, 57, 57])) (.t 64), none, [9]⟩,
    ⟨some 66, .ia (.int .u8) (.t 55) (.t 57), none, [0, 2, 1, 6, 7, 8]⟩,
    ⟨none, .st (.t 66) (.t 63) 1, none, [11, 0, 2, 1, 6, 7, 8]⟩,
    ⟨some 67, .ia (.int .u8) (.t 58) (.t 60), none, [3, 5, 4, 0, 1, 2, 6, 7, 8, 9, 10, 11, 12]⟩,
    ⟨none, .st (.t 67) (.t 65) 1, none, [13, 3, 5, 4, 0, 1, 2, 6, 7, 8, 9, 10, 11, 12]⟩])
  (.seq (.ops true [⟨some 68, .mv (.t 0), none, []⟩,
    ⟨some 69, .mv (.t 4), none, []⟩,
    ⟨some 70, .bin .sub (.t 69) (.v (.i .i64 5)), none, [1]⟩,
    ⟨some 71, .mv (.t 0), none, []⟩,
    ⟨some 72, .mv (.t 4), none, []⟩,
    ⟨some 73, .bin .sub (.t 72) (.v (.i .i64 6)), none, [4]⟩,
    ⟨some 74, .mv (.t 11), none, []⟩,
    ⟨some 75, .bin .add (.t 74) (.v (.i .u32 1)), none, [6]⟩,
    ⟨some 76, .ixs (.v (.s [48, 48, 48, 49, 48, 50, 48, 51, 48, 52, 48, 53, 48, 54, 48, 55, 48, 56, 48, 57, 49, 48, 49, 49, 49, 50, 49, 51, 49, 52, 49, 53, 49, 54, 49, 55, 49, 56, 49, 57, 50, 48, 50, 49, 50, 50, 50, 51, 50, 52, 50, 53, 50, 54, 50, 55, 50, 56, 50, 57, 51, 48, 51, 49, 51, 50, 51, 51, 51, 52, 51, 53, 51, 54, 51, 55, 51, 56, 51, 57, 52, 48, 52, 49, 52, 50, 52, 51, 52, 52, 52, 53, 52, 54, 52, 55, 52, 56, 52, 57, 53, 48, 53, 49, 53, 50, 53, 51, 53, 52, 53, 53, 53, 54, 53, 55, 53, 56, 53, 57, 54, 48, 54, 49, 54, 50, 54, 51, 54, 52, 54, 53, 54, 54, 54, 55, 54, 56, 54, 57, 55, 48, 55, 49, 55, 50, 55, 51, 55, 52, 55, 53, 55, 54, 55, 55, 55, 56, 55, 57, 56, 48, 56, 49, 56, 50, 56, 51, 56, 52, 56, 53, 56, 54, 56, 55, 56, 56, 56, 57, 57, 48, 57, 49, 57, 50, 57, 51, 57, 52, 57, 53, 57, 54, 57, 55, 57, 56, 57, 57])) (.t 75), none, [7, 6]⟩,
    ⟨some 77, .mv (.t 11), none, []⟩,
    ⟨some 78, .ixs (.v (.s [48, 48, 48, 49, 48, 50, 48, 51, 48, 52, 48, 53, 48, 54, 48, 55, 48, 56, 48, 57, 49, 48, 49, 49, 49, 50, 49, 51, 49, 52, 49, 53, 49, 54, 49, 55, 49, 56, 49, 57, 50, 48, 50, 49, 50, 50, 50, 51, 50, 52, 50, 53, 50, 54, 50, 55, 50, 56, 50, 57, 51, 48, 51, 49, 51, 50, 51, 51, 51, 52, 51, 53, 51, 54, 51, 55, 51, 56, 51, 57, 52, 48, 52, 49, 52, 50, 52, 51, 52, 52, 52, 53, 52, 54, 52, 55, 52, 56, 52, 57, 53, 48, 53, 49, 53, 50, 53, 51, 53, 52, 53, 53, 53, 54, 53, 55, 53, 56, 53, 57, 54, 48, 54, 49, 54, 50, 54, 51, 54, 52, 54, 53, 54, 54, 54, 55, 54, 56, 54, 57, 55, 48, 55, 49, 55, 50, 55, 51, 55, 52, 55, 53, 55, 54, 55, 55, 55, 56, 55, 57, 56, 48, 56, 49, 56, 50, 56, 51, 56, 52, 56, 53, 56, 54, 56, 55, 56, 56, 56, 57, 57, 48, 57, 49, 57, 50, 57, 51, 57, 52, 57, 53, 57, 54, 57, 55, 57, 56, 57, 57])) (.t 77), none, [9]⟩,
    ⟨some 79, .ia (.int .u8) (.t 68) (.t 70), none, [0, 2, 1, 6, 7, 8]⟩,
    ⟨none, .st (.t 79) (.t 76) 1, none, [11, 0, 2, 1, 6, 7, 8]⟩,
    ⟨some 80, .ia (.int .u8) (.t 71) (.t 73), none, [3, 5, 4, 0, 1, 2, 6, 7, 8, 9, 10, 11, 12]⟩,
    ⟨none, .st (.t 80) (.t 78) 1, none, [13, 3, 5, 4, 0, 1, 2, 6, 7, 8, 9, 10, 11, 12]⟩])
  (.seq (.ops true [⟨some 81, .mv (.t 0), none, []⟩,
    ⟨some 82, .mv (.t 4), none, []⟩,
    ⟨some 83, .bin .sub (.t 82) (.v (.i .i64 7)), none, [1]⟩,
    ⟨some 84, .mv (.t 0), none, []⟩,
    ⟨some 85, .mv (.t 4), none, []⟩,
    ⟨some 86, .bin .sub (.t 85) (.v (.i .i64 8)), none, [4]⟩,
    ⟨some 87, .mv (.t 10), none, []⟩,
    ⟨some 88, .bin .add (.t 87) (.v (.i .u32 1)), none, [6]⟩,
    ⟨some 89, .ixs (.v (.s [48, 48, 48, 49, 48, 50, 48, 51, 48, 52, 48, 53, 48, 54, 48, 55, 48, 56, 48, 57, 49, 48, 49, 49, 49, 50, 49, 51, 49, 52, 49, 53, 49, 54, 49, 55, 49, 56, 49, 57, 50, 48, 50, 49, 50, 50, 50, 51, 50, 52, 50, 53, 50, 54, 50, 55, 50, 56, 50, 57, 51, 48, 51, 49, 51, 50, 51, 51, 51, 52, 51, 53, 51, 54, 51, 55, 51, 56, 51, 57, 52, 48, 52, 49, 52, 50, 52, 51, 52, 52, 52, 53, 52, 54, 52, 55, 52, 56, 52, 57, 53, 48, 53, 49, 53, 50, 53, 51, 53, 52, 53, 53, 53, 54, 53, 55, 53, 56, 53, 57, 54, 48, 54, 49, 54, 50, 54, 51, 54, 52, 54, 53, 54, 54, 54, 55, 54, 56, 54, 57, 55, 48, 55, 49, 55, 50, 55, 51, 55, 52, 55, 53, 55, 54, 55, 55, 55, 56, 55, 57, 56, 48, 56, 49, 56, 50, 56, 51, 56, 52, 56, 53, 56, 54, 56, 55, 56, 56, 56, 57, 57, 48, 57, 49, 57, 50, 57, 51, 57, 52, 57, 53, 57, 54, 57, 55, 57, 56, 57, 57])) (.t 88), none, [7, 6]⟩,
    ⟨some 90, .mv (.t 10), none, []⟩,
    ⟨some 91, .ixs (.v (.s [48, 48, 48, 49, 48, 50, 48, 51, 48, 52, 48, 53, 48, 54, 48, 55, 48, 56, 48, 57, 49, 48, 49, 49, 49, 50, 49, 51, 49, 52, 49, 53, 49, 54, 49, 55, 49, 56, 49, 57, 50, 48, 50, 49, 50, 50, 50, 51, 50, 52, 50, 53, 50, 54, 50, 55, 50, 56, 50, 57, 51, 48, 51, 49, 51, 50, 51, 51, 51, 52, 51, 53, 51, 54, 51, 55, 51, 56, 51, 57, 52, 48, 52, 49, 52, 50, 52, 51, 52, 52, 52, 53, 52, 54, 52, 55, 52, 56, 52, 57, 53, 48, 53, 49, 53, 50, 53, 51, 53, 52, 53, 53, 53, 54, 53, 55, 53, 56, 53, 57, 54, 48, 54, 49, 54, 50, 54, 51, 54, 52, 54, 53, 54, 54, 54, 55, 54, 56, 54, 57, 55, 48, 55, 49, 55, 50, 55, 51, 55, 52, 55, 53, 55, 54, 55, 55, 55, 56, 55, 57, 56, 48, 56, 49, 56, 50, 56, 51, 56, 52, 56, 53, 56, 54, 56, 55, 56, 56, 56, 57, 57, 48, 57, 49, 57, 50, 57, 51, 57, 52, 57, 53, 57, 54, 57, 55, 57, 56, 57, 57])) (.t 90), none, [9]⟩,
    ⟨some 92, .ia (.int .u8) (.t 81) (.t 83), none, [0, 2, 1, 6, 7, 8]⟩,
    ⟨none, .st (.t 92) (.t 89) 1, none, [11, 0, 2, 1, 6, 7, 8]⟩,
    ⟨some 93, .ia (.int .u8) (.t 84) (.t 86), none, [3, 5, 4, 0, 1, 2, 6, 7, 8, 9, 10, 11, 12]⟩,
    ⟨none, .st (.t 93) (.t 91) 1, none, [13, 3, 5, 4, 0, 1, 2, 6, 7, 8, 9, 10, 11, 12]⟩])
  (.ops false [⟨some 94, .mv (.t 4), none, []⟩,
    ⟨some 95, .bin .sub (.t 94) (.v (.i .i64 8)), none, []⟩,
    ⟨some 4, .mv (.t 95), none, []⟩]))))))))))))))
  (.seq (.ops false [⟨some 96, .mv (.t 1), none, []⟩,
    ⟨some 97, .ci .u32 (.t 96), none, []⟩,
    ⟨some 12, .mv (.t 97), none, []⟩])
  (.seq (.seq (.ops false [⟨some 98, .mv (.t 4), none, []⟩,
    ⟨some 99, .bin .geq (.t 98) (.v (.i .i64 4)), none, []⟩])
  (.cond (.t 99) (.seq (.ops false [⟨some 100, .mv (.t 12), none, []⟩,
    ⟨some 101, .bin .rem (.t 100) (.v (.i .u32 10000)), none, []⟩,
    ⟨some 13, .mv (.t 101), none, []⟩])
  (.seq (.ops false [⟨some 102, .mv (.t 12), none, []⟩,
    ⟨some 103, .bin .quo (.t 102) (.v (.i .u32 10000)), none, []⟩,
    ⟨some 12, .mv (.t 103), none, []⟩])
  (.seq (.ops false [⟨some 104, .mv (.t 13), none, []⟩,
    ⟨some 105, .bin .quo (.t 104) (.v (.i .u32 100)), none, []⟩,
    ⟨some 106, .bin .mul (.t 105) (.v (.i .u32 2)), none, []⟩,
    ⟨some 107, .mv (.t 13), none, []⟩,
    ⟨some 108, .bin .rem (.t 107) (.v (.i .u32 100)), none, []⟩,
    ⟨some 109, .bin .mul (.t 108) (.v (.i .u32 2)), none, []⟩,
    ⟨some 14, .mv (.t 106), none, []⟩,
    ⟨some 15, .mv (.t 109), none, []⟩])
  (.seq (.ops true [⟨some 110, .mv (.t 0), none, []⟩,
    ⟨some 111, .mv (.t 4), none, []⟩,
    ⟨some 112, .bin .sub (.t 111) (.v (.i .i64 1)), none, [1]⟩,
    ⟨some 113, .mv (.t 0), none, []⟩,
    ⟨some 114, .mv (.t 4), none, []⟩,
    ⟨some 115, .bin .sub (.t 114) (.v (.i .i64 2)), none, [4]⟩,
    ⟨some 116, .mv (.t 15), none, []⟩,
    ⟨some 117, .bin .add (.t 116) (.v (.i .u32 1)), none, [6]⟩,
    ⟨some 118, .ixs (.v (.s [48, 48, 48, 49, 48, 50, 48, 51, 48, 52, 48, 53, 48, 54, 48, 55, 48, 56, 48, 57, 49, 48, 49, 49, 49, 50, 49, 51, 49, 52, 49, 53, 49, 54, 49, 55, 49, 56, 49, 57, 50, 48, 50, 49, 50, 50, 50, 51, 50, 52, 50, 53, 50, 54, 50, 55, 50, 56, 50, 57, 51, 48, 51, 49, 51, 50, 51, 51, 51, 52, 51, 53, 51, 54, 51, 55, 51, 56, 51, 57, 52, 48, 52, 49, 52, 50, 52, 51, 52, 52, 52, 53, 52, 54, 52, 55, 52, 56, 52, 57, 53, 48, 53, 49, 53, 50, 53, 51, 53, 52, 53, 53, 53, 54, 53, 55, 53, 56, 53, 57, 54, 48, 54, 49, 54, 50, 54, 51, 54, 52, 54, 53, 54, 54, 54, 55, 54, 56, 54, 57, 55, 48, 55, 49, 55, 50, 55, 51, 55, 52, 55, 53, 55, 54, 55, 55, 55, 56, 55, 57, 56, 48, 56, 49, 56, 50, 56, 51, 56, 52, 56, 53, 56, 54, 56, 55, 56, 56, 56, 57, 57, 48, 57, 49, 57, 50, 57, 51, 57, 52, 57, 53, 57, 54, 57, 55, 57, 56, 57, 57])) (.t 117), none, [7, 6]⟩,
    ⟨some 119, .mv (.t 15), none, []⟩,
    ⟨some 120, .ixs (.v (.s [48, 48, 48, 49, 48, 50, 48, 51, 48, 52, 48, 53, 48, 54, 48, 55, 48, 56, 48, 57, 49, 48, 49, 49, 49, 50, 49, 51, 49, 52, 49, 53, 49, 54, 49, 55, 49, 56, 49, 57, 50, 48, 50, 49, 50, 50, 50, 51, 50, 52, 50, 53, 50, 54, 50, 55, 50, 56, 50, 57, 51, 48, 51, 49, 51, 50, 51, 51, 51, 52, 51, 53, 51, 54, 51, 55, 51, 56, 51, 57, 52, 48, 52, 49, 52, 50, 52, 51, 52, 52, 52, 53, 52, 54, 52, 55, 52, 56, 52, 57, 53, 48, 53, 49, 53, 50, 53, 51, 53, 52, 53, 53, 53, 54, 53, 55, 53, 56, 53, 57, 54, 48, 54, 49, 54, 50, 54, 51, 54, 52, 54, 53, 54, 54, 54, 55, 54, 56, 54, 57, 55, 48, 55, 49, 55, 50, 55, 51, 55, 52, 55, 53, 55, 54, 55, 55, 55, 56, 55, 57, 56, 48, 56, 49, 56, 50, 56, 51, 56, 52, 56, 53, 56, 54, 56, 55, 56, 56, 56, 57, 57, 48, 57, 49, 57, 50, 57, 51, 57, 52, 57, 53, 57, 54, 57, 55, 57, 56, 57, 57])) (.t 119), none, [9]⟩,
    ⟨some 121, .ia (.int .u8) (.t 110) (.t 112), none, [0, 2, 1, 6, 7, 8]⟩,
    ⟨none, .st (.t 121) (.t 118) 1, none, [11, 0, 2, 1, 6, 7, 8]⟩,
    ⟨some 122, .ia (.int .u8) (.t 113) (.t 115), none, [3, 5, 4, 0, 1, 2, 6, 7, 8, 9, 10, 11, 12]⟩,
    ⟨none, .st (.t 122) (.t 120) 1, none, [13, 3, 5, 4, 0, 1, 2, 6, 7, 8, 9, 10, 11, 12]⟩])
  (.seq (.ops true [⟨some 123, .mv (.t 0), none, []⟩,
    ⟨some 124, .mv (.t 4), none, []⟩,
    ⟨some 125, .bin .sub (.t 124) (.v (.i .i64 3)), none, [1]⟩,
    ⟨some 126, .mv (.t 0), none, []⟩,
    ⟨some 127, .mv (.t 4), none, []⟩,
    ⟨some 128, .bin .sub (.t 127) (.v (.i .i64 4)), none, [4]⟩,
    ⟨some 129, .mv (.t 14), none, []⟩,
    ⟨some 130, .bin .add (.t 129) (.v (.i .u32 1)), none, [6]⟩,
    ⟨some 131, .ixs (.v (.s [48, 48, 48, 49, 48, 50, 48, 51, 48, 52, 48, 53, 48, 54, 48, 55, 48, 56, 48, 57, 49, 48, 49, 49, 49, 50, 49, 51, 49, 52, 49, 53, 49, 54, 49, 55, 49, 56, 49, 57, 50, 48, 50, 49, 50, 50, 50, 51, 50, 52, 50, 53, 50, 54, 50, 55, 50, 56, 50, 57, 51, 48, 51, 49, 51, 50, 51, 51, 51, 52, 51, 53, 51, 54, 51, 55, 51, 56, 51, 57, 52, 48, 52, 49, 52, 50, 52, 51, 52, 52, 52, 53, 52, 54, 52, 55, 52, 56, 52, 57, 53, 48, 53, 49, 53, 50, 53, 51, 53, 52, 53, 53, 53, 54, 53, 55, 53, 56, 53, 57, 54, 48, 54, 49, 54, 50, 54, 51, 54, 52, 54, 53, 54, 54, 54, 55, 54, 56, 54, 57, 55, 48, 55, 49, 55, 50, 55, 51, 55, 52, 55, 53, 55, 54, 55, 55, 55, 56, 55, 57, 56, 48, 56, 49, 56, 50, 56, 51, 56, 52, 56, 53, 56, 54, 56, 55, 56, 56, 56, 57, 57, 48, 57, 49, 57, 50, 57, 51, 57, 52, 57, 53, 57, 54, 57, 55, 57, 56, 57, 57])) (.t 130), none, [7, 6]⟩,
    ⟨some 132, .mv (.t 14), none, []⟩,
    ⟨some 133, .ixs (.v (.s [48, 48, 48, 49, 48, 50, 48, 51, 48, 52, 48, 53, 48, 54, 48, 55, 48, 56, 48, 57, 49, 48, 49, 49, 49, 50, 49, 51, 49, 52, 49, 53, 49, 54, 49, 55, 49, 56, 49, 57, 50, 48, 50, 49, 50, 50, 50, 51, 50, 52, 50, 53, 50, 54, 50, 55, 50, 56, 50, 57, 51, 48, 51, 49, 51, 50, 51, 51, 51, 52, 51, 53, 51, 54, 51, 55, 51, 56, 51, 57, 52, 48, 52, 49, 52, 50, 52, 51, 52, 52, 52, 53, 52, 54, 52, 55, 52, 56, 52, 57, 53, 48, 53, 49, 53, 50, 53, 51, 53, 52, 53, 53, 53, 54, 53, 55, 53, 56, 53, 57, 54, 48, 54, 49, 54, 50, 54, 51, 54, 52, 54, 53, 54, 54, 54, 55, 54, 56, 54, 57, 55, 48, 55, 49, 55, 50, 55, 51, 55, 52, 55, 53, 55, 54, 55, 55, 55, 56, 55, 57, 56, 48, 56, 49, 56, 50, 56, 51, 56, 52, 56, 53, 56, 54, 56, 55, 56, 56, 56, 57, 57, 48, 57, 49, 57, 50, 57, 51, 57, 52, 57, 53, 57, 54, 57, 55, 57, 56, 57, 57])) (.t 132), none, [9]⟩,
    ⟨some 134, .ia (.int .u8) (.t 123) (.t 125), none, [0, 2, 1, 6, 7, 8]⟩,
    ⟨none, .st (.t 134) (.t 131) 1, none, [11, 0, 2, 1, 6, 7, 8]⟩,
    ⟨some 135, .ia (.int .u8) (.t 126) (.t 128), none, [3, 5, 4, 0, 1, 2, 6, 7, 8, 9, 10, 11, 12]⟩,
    ⟨none, .st (.t 135) (.t 133) 1, none, [13, 3, 5, 4, 0, 1, 2, 6, 7, 8, 9, 10, 11, 12]⟩])
  (.ops false [⟨some 136, .mv (.t 4), none, []⟩,
    ⟨some 137, .bin .sub (.t 136) (.v (.i .i64 4)), none, []⟩,
    ⟨some 4, .mv (.t 137), none, []⟩])))))) (.skip)))
  (.seq (.seq (.ops false [⟨some 138, .mv (.t 4), none, []⟩,
    ⟨some 139, .bin .geq (.t 138) (.v (.i .i64 2)), none, []⟩])
  (.cond (.t 139) (.seq (.ops false [⟨some 140, .mv (.t 12), none, []⟩,
    ⟨some 141, .bin .rem (.t 140) (.v (.i .u32 100)), none, []⟩,
    ⟨some 142, .bin .mul (.t 141) (.v (.i .u32 2)), none, []⟩,
    ⟨some 16, .mv (.t 142), none, []⟩])
  (.seq (.ops false [⟨some 143, .mv (.t 12), none, []⟩,
    ⟨some 144, .bin .quo (.t 143) (.v (.i .u32 100)), none, []⟩,
    ⟨some 12, .mv (.t 144), none, []⟩])
  (.seq (.ops true [⟨some 145, .mv (.t 0), none, []⟩,
    ⟨some 146, .mv (.t 4), none, []⟩,
    ⟨some 147, .bin .sub (.t 146) (.v (.i .i64 1)), none, [1]⟩,
    ⟨some 148, .mv (.t 0), none, []⟩,
    ⟨some 149, .mv (.t 4), none, []⟩,
    ⟨some 150, .bin .sub (.t 149) (.v (.i .i64 2)), none, [4]⟩,
    ⟨some 151, .mv (.t 16), none, []⟩,
    ⟨some 152, .bin .add (.t 151) (.v (.i .u32 1)), none, [6]⟩,
    ⟨some 153, .ixs (.v (.s [48, 48, 48, 49, 48, 50, 48, 51, 48, 52, 48, 53, 48, 54, 48, 55, 48, 56, 48, 57, 49, 48, 49, 49, 49, 50, 49, 51, 49, 52, 49, 53, 49, 54, 49, 55, 49, 56, 49, 57, 50, 48, 50, 49, 50, 50, 50, 51, 50, 52, 50, 53, 50, 54, 50, 55, 50, 56, 50, 57, 51, 48, 51, 49, 51, 50, 51, 51, 51, 52, 51, 53, 51, 54, 51, 55, 51, 56, 51, 57, 52, 48, 52, 49, 52, 50, 52, 51, 52, 52, 52, 53, 52, 54, 52, 55, 52, 56, 52, 57, 53, 48, 53, 49, 53, 50, 53, 51, 53, 52, 53, 53, 53, 54, 53, 55, 53, 56, 53, 57, 54, 48, 54, 49, 54, 50, 54, 51, 54, 52, 54, 53, 54, 54, 54, 55, 54, 56, 54, 57, 55, 48, 55, 49, 55, 50, 55, 51, 55, 52, 55, 53, 55, 54, 55, 55, 55, 56, 55, 57, 56, 48, 56, 49, 56, 50, 56, 51, 56, 52, 56, 53, 56, 54, 56, 55, 56, 56, 56, 57, 57, 48, 57, 49, 57, 50, 57, 51, 57, 52, 57, 53, 57, 54, 57, 55, 57, 56, 57, 57])) (.t 152), none, [7, 6]⟩,
    ⟨some 154, .mv (.t 16), none, []⟩,
    ⟨some 155, .ixs (.v (.s [48, 48, 48, 49, 48, 50, 48, 51, 48, 52, 48, 53, 48, 54, 48, 55, 48, 56, 48, 57, 49, 48, 49, 49, 49, 50, 49, 51, 49, 52, 49, 53, 49, 54, 49, 55, 49, 56, 49, 57, 50, 48, 50, 49, 50, 50, 50, 51, 50, 52, 50, 53, 50, 54, 50, 55, 50, 56, 50, 57, 51, 48, 51, 49, 51, 50, 51, 51, 51, 52, 51, 53, 51, 54, 51, 55, 51, 56, 51, 57, 52, 48, 52, 49, 52, 50, 52, 51, 52, 52, 52, 53, 52, 54, 52, 55, 52, 56, 52, 57, 53, 48, 53, 49, 53, 50, 53, 51, 53, 52, 53, 53, 53, 54, 53, 55, 53, 56, 53, 57, 54, 48, 54, 49, 54, 50, 54, 51, 54, 52, 54, 53, 54, 54, 54, 55, 54, 56, 54, 57, 55, 48, 55, 49, 55, 50, 55, 51, 55, 52, 55, 53, 55, 54, 55, 55, 55, 56, 55, 57, 56, 48, 56, 49, 56, 50, 56, 51, 56, 52, 56, 53, 56, 54, 56, 55, 56, 56, 56, 57, 57, 48, 57, 49, 57, 50, 57, 51, 57, 52, 57, 53, 57, 54, 57, 55, 57, 56, 57, 57])) (.t 154), none, [9]⟩,
    ⟨some 156, .ia (.int .u8) (.t 145) (.t 147), none, [0, 2, 1, 6, 7, 8]⟩,
    ⟨none, .st (.t 156) (.t 153) 1, none, [11, 0, 2, 1, 6, 7, 8]⟩,
    ⟨some 157, .ia (.int .u8) (.t 148) (.t 150), none, [3, 5, 4, 0, 1, 2, 6, 7, 8, 9, 10, 11, 12]⟩,
    ⟨none, .st (.t 157) (.t 155) 1, none, [13, 3, 5, 4, 0, 1, 2, 6, 7, 8, 9, 10, 11, 12]⟩])
  (.ops false [⟨some 158, .mv (.t 4), none, []⟩,
    ⟨some 159, .bin .sub (.t 158) (.v (.i .i64 2)), none, []⟩,
    ⟨some 4, .mv (.t 159), none, []⟩])))) (.skip)))
  (.seq (.ops false [⟨some 160, .mv (.t 4), none, []⟩,
    ⟨some 161, .bin .gtr (.t 160) (.v (.i .i64 0)), none, []⟩])
  (.cond (.t 161) (.ops false [⟨some 162, .mv (.t 0), none, []⟩,
    ⟨some 163, .mv (.t 12), none, []⟩,
    ⟨some 164, .bin .add (.v (.i .u32 48)) (.t 163), none, []⟩,
    ⟨some 165, .ci .u8 (.t 164), none, []⟩,
    ⟨some 166, .ia (.int .u8) (.t 162) (.v (.i .i64 0)), none, []⟩,
    ⟨none, .st (.t 166) (.t 165) 1, none, []⟩]) (.skip)))))))
theorem run47 : Run 47 xc47 167 [] := run_of false Tryd.func47 rfl (by kernel_rfl) rfl rfl

/-- internal/strconv.formatBits -/
noncomputable def xc48 : XC :=
  .seq (.ops false [⟨some 10, .mv (.v (.ns)), none, []⟩,
    ⟨some 11, .mv (.v (.s [])), none, []⟩])
  (.seq (.seq (.ops false [⟨some 19, .mv (.t 2), none, []⟩,
    ⟨some 20, .bin .lss (.t 19) (.v (.i .i64 2)), none, []⟩,
    ⟨some 21, .mv (.t 20), none, []⟩,
    ⟨some 22, .mv (.t 2), some (21, false), []⟩,
    ⟨some 23, .bin .eql (.t 22) (.v (.i .i64 10)), some (21, false), []⟩,
    ⟨some 24, .pick (.t 21) (.v (.b true)) (.t 23), none, []⟩,
    ⟨some 25, .mv (.t 24), none, []⟩,
    ⟨some 26, .mv (.t 2), some (25, false), []⟩,
    ⟨some 27, .bin .gtr (.t 26) (.v (.i .i64 36)), some (25, false), []⟩,
    ⟨some 28, .pick (.t 25) (.v (.b true)) (.t 27), none, []⟩])
  (.cond (.t 28) (.ops false [⟨some 29, .mkif 9 (.v (.s [115, 116, 114, 99, 111, 110, 118, 58, 32, 105, 108, 108, 101, 103, 97, 108, 32, 65, 112, 112, 101, 110, 100, 73, 110, 116, 47, 70, 111, 114, 109, 97, 116, 73, 110, 116, 32, 98, 97, 115, 101])), none, []⟩,
    ⟨none, .pan (.t 29), none, []⟩]) (.skip)))
  (.seq (.ops false [⟨some 12, .new [.ar (.int .u8) 65 (List.replicate 65 (0 : Int))], none, []⟩])
  (.seq (.ops false [⟨some 13, .mv (.v (.i .i64 65)), none, []⟩])
  (.seq (.seq (.ops false [⟨some 30, .mv (.t 3), none, []⟩])
  (.cond (.t 30) (.ops false [⟨some 31, .mv (.t 1), none, []⟩,
    ⟨some 32, .un .neg (.t 31), none, []⟩,
    ⟨some 1, .mv (.t 32), none, []⟩]) (.skip)))
  (.seq (.seq (.ops false [⟨some 33, .mv (.t 2), none, []⟩,
    ⟨some 34, .call (.v (.fn 52 [])) [.t 33], none, []⟩])
  (.cond (.t 34) (.seq (.ops false [⟨some 35, .mv (.t 2), none, []⟩,
    ⟨some 36, .ci .u64 (.t 35), none, []⟩,
    ⟨some 37, .call (.v (.fn 53 [])) [.t 36], none, []⟩,
    ⟨some 38, .ci .u64 (.t 37), none, []⟩,
    ⟨some 14, .mv (.t 38), none, []⟩])
  (.seq (.ops false [⟨some 39, .mv (.t 2), none, []⟩,
    ⟨some 40, .ci .u64 (.t 39), none, []⟩,
    ⟨some 15, .mv (.t 40), none, []⟩])
  (.seq (.ops false [⟨some 41, .mv (.t 2), none, []⟩,
    ⟨some 42, .ci .u64 (.t 41), none, []⟩,
    ⟨some 43, .bin .sub (.t 42) (.v (.i .u64 1)), none, []⟩,
    ⟨some 16, .mv (.t 43), none, []⟩])
  (.seq (.block 0 (.loop (.seq (.seq (.ops false [⟨some 44, .mv (.t 1), none, []⟩,
    ⟨some 45, .mv (.t 15), none, []⟩,
    ⟨some 46, .bin .geq (.t 44) (.t 45), none, []⟩])
  (.cond (.t 46) (.skip) (.exit 0)))
  (.block 1 (.seq (.ops false [⟨some 47, .mv (.t 13), none, []⟩,
    ⟨some 48, .bin .sub (.t 47) (.v (.i .i64 1)), none, []⟩,
    ⟨some 13, .mv (.t 48), none, []⟩])
  (.seq (.ops false [⟨some 49, .mv (.t 13), none, []⟩,
    ⟨some 50, .mv (.t 1), none, []⟩,
    ⟨some 51, .mv (.t 16), none, []⟩,
    ⟨some 52, .bin .and (.t 50) (.t 51), none, []⟩,
    ⟨some 53, .ixs (.v (.s [48, 49, 50, 51, 52, 53, 54, 55, 56, 57, 97, 98, 99, 100, 101, 102, 103, 104, 105, 106, 107, 108, 109, 110, 111, 112, 113, 114, 115, 116, 117, 118, 119, 120, 121, 122])) (.t 52), none, []⟩,
    ⟨some 54, .iap 65 (.int .u8) (.t 12) (.t 49), none, []⟩,
    ⟨none, .st (.t 54) (.t 53) 1, none, []⟩])
  (.ops false [⟨some 55, .mv (.t 1), none, []⟩,
    ⟨some 56, .mv (.t 14), none, []⟩,
    ⟨some 57, .bin .shr (.t 55) (.t 56), none, []⟩,
    ⟨some 1, .mv (.t 57), none, []⟩])))))))
  (.seq (.ops false [⟨some 58, .mv (.t 13), none, []⟩,
    ⟨some 59, .bin .sub (.t 58) (.v (.i .i64 1)), none, []⟩,
    ⟨some 13, .mv (.t 59), none, []⟩])
  (.ops false [⟨some 60, .mv (.t 13), none, []⟩,
    ⟨some 61, .mv (.t 1), none, []⟩,
    ⟨some 62, .ixs (.v (.s [48, 49, 50, 51, 52, 53, 54, 55, 56, 57, 97, 98, 99, 100, 101, 102, 103, 104, 105, 106, 107, 108, 109, 110, 111, 112, 113, 114, 115, 116, 117, 118, 119, 120, 121, 122])) (.t 61), none, []⟩,
    ⟨some 63, .iap 65 (.int .u8) (.t 12) (.t 60), none, []⟩,
    ⟨none, .st (.t 63) (.t 62) 1, none, []⟩])))))) (.seq (.ops false [⟨some 64, .mv (.t 2), none, []⟩,
    ⟨some 65, .ci .u64 (.t 64), none, []⟩,
    ⟨some 17, .mv (.t 65), none, []⟩])
  (.seq (.block 2 (.loop (.seq (.seq (.ops false [⟨some 66, .mv (.t 1), none, []⟩,
    ⟨some 67, .mv (.t 17), none, []⟩,
    ⟨some 68, .bin .geq (.t 66) (.t 67), none, []⟩])
  (.cond (.t 68) (.skip) (.exit 2)))
  (.block 3 (.seq (.ops false [⟨some 69, .mv (.t 13), none, []⟩,
    ⟨some 70, .bin .sub (.t 69) (.v (.i .i64 1)), none, []⟩,
    ⟨some 13, .mv (.t 70), none, []⟩])
  (.seq (.ops false [⟨some 71, .mv (.t 1), none, []⟩,
    ⟨some 72, .mv (.t 17), none, []⟩,
    ⟨some 73, .bin .quo (.t 71) (.t 72), none, []⟩,
    ⟨some 18, .mv (.t 73), none, []⟩])
  (.seq (.ops false [⟨some 74, .mv (.t 13), none, []⟩,
    ⟨some 75, .mv (.t 1), none, []⟩,
    ⟨some 76, .mv (.t 18), none, []⟩,
    ⟨some 77, .mv (.t 17), none, []⟩,
    ⟨some 78, .bin .mul (.t 76) (.t 77), none, []⟩,
    ⟨some 79, .bin .sub (.t 75) (.t 78), none, []⟩,
    ⟨some 80, .ixs (.v (.s [48, 49, 50, 51, 52, 53, 54, 55, 56, 57, 97, 98, 99, 100, 101, 102, 103, 104, 105, 106, 107, 108, 109, 110, 111, 112, 113, 114, 115, 116, 117, 118, 119, 120, 121, 122])) (.t 79), none, []⟩,
    ⟨some 81, .iap 65 (.int .u8) (.t 12) (.t 74), none, []⟩,
    ⟨none, .st (.t 81) (.t 80) 1, none, []⟩])
  (.ops false [⟨some 82, .mv (.t 18), none, []⟩,
    ⟨some 1, .mv (.t 82), none, []⟩]))))))))
  (.seq (.ops false [⟨some 83, .mv (.t 13), none, []⟩,
    ⟨some 84, .bin .sub (.t 83) (.v (.i .i64 1)), none, []⟩,
    ⟨some 13, .mv (.t 84), none, []⟩])
  (.ops false [⟨some 85, .mv (.t 13), none, []⟩,
    ⟨some 86, .mv (.t 1), none, []⟩,
    ⟨some 87, .ixs (.v (.s [48, 49, 50, 51, 52, 53, 54, 55, 56, 57, 97, 98, 99, 100, 101, 102, 103, 104, 105, 106, 107, 108, 109, 110, 111, 112, 113, 114, 115, 116, 117, 118, 119, 120, 121, 122])) (.t 86), none, []⟩,
    ⟨some 88, .iap 65 (.int .u8) (.t 12) (.t 85), none, []⟩,
    ⟨none, .st (.t 88) (.t 87) 1, none, []⟩]))))))
  (.seq (.seq (.ops false [⟨some 89, .mv (.t 3), none, []⟩])
  (.cond (.t 89) (.seq (.ops false [⟨some 90, .mv (.t 13), none, []⟩,
    ⟨some 91, .bin .sub (.t 90) (.v (.i .i64 1)), none, []⟩,
    ⟨some 13, .mv (.t 91), none, []⟩])
  (.ops false [⟨some 92, .mv (.t 13), none, []⟩,
    ⟨some 93, .iap 65 (.int .u8) (.t 12) (.t 92), none, []⟩,
    ⟨none, .st (.t 93) (.v (.i .u8 45)) 1, none, []⟩])) (.skip)))
  (.seq (.seq (.ops false [⟨some 94, .mv (.t 4), none, []⟩])
  (.cond (.t 94) (.seq (.bad)
  (.ret)) (.skip)))
  (.seq (.bad)
  (.ret)))))))))
theorem run48 : Run 48 xc48 102 [.t 10, .t 11] := run_of false Tryd.func48 rfl (by kernel_rfl) rfl rfl

/-- internal/strconv.log10Pow2 -/
noncomputable def xc49 : XC :=
  .seq (.ops false [⟨some 2, .mv (.v (.i .i64 0)), none, []⟩])
  (.seq (.ops false [⟨some 3, .mv (.t 0), none, []⟩,
    ⟨some 4, .bin .mul (.t 3) (.v (.i .i64 78913)), none, []⟩,
    ⟨some 5, .bin .shr (.t 4) (.v (.i .u64 18)), none, []⟩,
    ⟨some 2, .mv (.t 5), none, []⟩])
  (.ret))
theorem run49 : Run 49 xc49 6 [.t 2] := run_of false Tryd.func49 rfl (by kernel_rfl) rfl rfl

/-- math/bits.Len64 -/
noncomputable def xc50 : XC :=
  .seq (.ops false [⟨some 2, .mv (.v (.i .i64 0)), none, []⟩])
  (.seq (.seq (.ops false [⟨some 3, .mv (.t 0), none, []⟩,
    ⟨some 4, .bin .geq (.t 3) (.v (.i .u64 4294967296)), none, []⟩])
  (.cond (.t 4) (.seq (.ops false [⟨some 5, .mv (.t 0), none, []⟩,
    ⟨some 6, .bin .shr (.t 5) (.v (.i .u64 32)), none, []⟩,
    ⟨some 0, .mv (.t 6), none, []⟩])
  (.ops false [⟨some 2, .mv (.v (.i .i64 32)), none, []⟩])) (.skip)))
  (.seq (.seq (.ops false [⟨some 7, .mv (.t 0), none, []⟩,
    ⟨some 8, .bin .geq (.t 7) (.v (.i .u64 65536)), none, []⟩])
  (.cond (.t 8) (.seq (.ops false [⟨some 9, .mv (.t 0), none, []⟩,
    ⟨some 10, .bin .shr (.t 9) (.v (.i .u64 16)), none, []⟩,
    ⟨some 0, .mv (.t 10), none, []⟩])
  (.ops false [⟨some 11, .mv (.t 2), none, []⟩,
    ⟨some 12, .bin .add (.t 11) (.v (.i .i64 16)), none, []⟩,
    ⟨some 2, .mv (.t 12), none, []⟩])) (.skip)))
  (.seq (.seq (.ops false [⟨some 13, .mv (.t 0), none, []⟩,
    ⟨some 14, .bin .geq (.t 13) (.v (.i .u64 256)), none, []⟩])
  (.cond (.t 14) (.seq (.ops false [⟨some 15, .mv (.t 0), none, []⟩,
    ⟨some 16, .bin .shr (.t 15) (.v (.i .u64 8)), none, []⟩,
    ⟨some 0, .mv (.t 16), none, []⟩])
  (.ops false [⟨some 17, .mv (.t 2), none, []⟩,
    ⟨some 18, .bin .add (.t 17) (.v (.i .i64 8)), none, []⟩,
    ⟨some 2, .mv (.t 18), none, []⟩])) (.skip)))
  (.seq (.ops false [⟨some 19, .mv (.t 2), none, []⟩,
    ⟨some 20, .mv (.t 0), none, []⟩,
    ⟨some 21, .ci .u8 (.t 20), none, []⟩,
    ⟨some 22, .ixs (.v (.s [0, 1, 2, 2, 3, 3, 3, 3, 4, 4, 4, 4, 4, 4, 4, 4, 5, 5, 5, 5, 5, 5, 5, 5, 5, 5, 5, 5, 5, 5, 5, 5, 6, 6, 6, 6, 6, 6, 6, 6, 6, 6, 6, 6, 6, 6, 6, 6, 6, 6, 6, 6, 6, 6, 6, 6, 6, 6, 6, 6, 6, 6, 6, 6, 7, 7, 7, 7, 7, 7, 7, 7, 7, 7, 7, 7, 7, 7, 7, 7, 7, 7, 7, 7, 7, 7, 7, 7, 7, 7, 7, 7, 7, 7, 7, 7, 7, 7, 7, 7, 7, 7, 7, 7, 7, 7, 7, 7, 7, 7, 7, 7, 7, 7, 7, 7, 7, 7, 7, 7, 7, 7, 7, 7, 7, 7, 7, 7, 8, 8, 8, 8, 8, 8, 8, 8, 8, 8, 8, 8, 8, 8, 8, 8, 8, 8, 8, 8, 8, 8, 8, 8, 8, 8, 8, 8, 8, 8, 8, 8, 8, 8, 8, 8, 8, 8, 8, 8, 8, 8, 8, 8, 8, 8, 8, 8, 8, 8, 8, 8, 8, 8, 8, 8, 8, 8, 8, 8, 8, 8, 8, 8, 8, 8, 8, 8, 8, 8, 8, 8, 8, 8, 8, 8, 8, 8, 8, 8, 8, 8, 8, 8, 8, 8, 8, 8, 8, 8, 8, 8, 8, 8, 8, 8, 8, 8, 8, 8, 8, 8, 8, 8, 8, 8, 8, 8, 8, 8, 8, 8, 8, 8, 8, 8, 8, 8, 8, 8, 8, 8, 8, 8, 8, 8, 8, 8])) (.t 21), none, []⟩,
    ⟨some 23, .ci .i64 (.t 22), none, []⟩,
    ⟨some 24, .bin .add (.t 19) (.t 23), none, []⟩,
    ⟨some 2, .mv (.t 24), none, []⟩])
  (.ret)))))
theorem run50 : Run 50 xc50 25 [.t 2] := run_of false Tryd.func50 rfl (by kernel_rfl) rfl rfl

/-- internal/strconv.bool2[int] -/
noncomputable def xc51 : XC :=
  .seq (.ops false [⟨some 2, .mv (.v (.i .i64 0)), none, []⟩])
  (.seq (.seq (.ops false [⟨some 3, .mv (.t 0), none, []⟩])
  (.cond (.t 3) (.seq (.ops false [⟨some 2, .mv (.v (.i .i64 1)), none, []⟩])
  (.ret)) (.skip)))
  (.seq (.ops false [⟨some 2, .mv (.v (.i .i64 0)), none, []⟩])
  (.ret)))
theorem run51 : Run 51 xc51 4 [.t 2] := run_of false Tryd.func51 rfl (by kernel_rfl) rfl rfl

/-- internal/strconv.isPowerOfTwo -/
noncomputable def xc52 : XC :=
  .seq (.ops false [⟨some 2, .mv (.v (.b false)), none, []⟩])
  (.seq (.ops false [⟨some 3, .mv (.t 0), none, []⟩,
    ⟨some 4, .mv (.t 0), none, []⟩,
    ⟨some 5, .bin .sub (.t 4) (.v (.i .i64 1)), none, []⟩,
    ⟨some 6, .bin .and (.t 3) (.t 5), none, []⟩,
    ⟨some 7, .bin .eql (.t 6) (.v (.i .i64 0)), none, []⟩,
    ⟨some 2, .mv (.t 7), none, []⟩])
  (.ret))
theorem run52 : Run 52 xc52 8 [.t 2] := run_of false Tryd.func52 rfl (by kernel_rfl) rfl rfl

/-- math/bits.TrailingZeros -/
noncomputable def xc53 : XC :=
  .seq (.ops false [⟨some 2, .mv (.v (.i .i64 0)), none, []⟩])
  (.seq (.cond (.v (.b false)) (.seq (.ops false [⟨some 3, .mv (.t 0), none, []⟩,
    ⟨some 4, .ci .u32 (.t 3), none, []⟩,
    ⟨some 5, .call (.v (.fn 54 [])) [.t 4], none, []⟩,
    ⟨some 2, .mv (.t 5), none, []⟩])
  (.ret)) (.skip))
  (.seq (.ops false [⟨some 6, .mv (.t 0), none, []⟩,
    ⟨some 7, .call (.v (.fn 55 [])) [.t 6], none, []⟩,
    ⟨some 2, .mv (.t 7), none, []⟩])
  (.ret)))
theorem run53 : Run 53 xc53 8 [.t 2] := run_of false Tryd.func53 rfl (by kernel_rfl) rfl rfl

/-- math/bits.TrailingZeros32 -/
noncomputable def xc54 : XC :=
  .seq (.ops false [⟨some 2, .mv (.v (.i .i64 0)), none, []⟩])
  (.seq (.seq (.ops false [⟨some 3, .mv (.t 0), none, []⟩,
    ⟨some 4, .bin .eql (.t 3) (.v (.i .u32 0)), none, []⟩])
  (.cond (.t 4) (.seq (.ops false [⟨some 2, .mv (.v (.i .i64 32)), none, []⟩])
  (.ret)) (.skip)))
  (.seq (.ops false [⟨some 5, .mv (.t 0), none, []⟩,
    ⟨some 6, .mv (.t 0), none, []⟩,
    ⟨some 7, .un .neg (.t 6), none, []⟩,
    ⟨some 8, .bin .and (.t 5) (.t 7), none, []⟩,
    ⟨some 9, .bin .mul (.t 8) (.v (.i .u32 125613361)), none, []⟩,
    ⟨some 10, .bin .shr (.t 9) (.v (.i .u64 27)), none, []⟩,
    ⟨some 11, .iap 32 (.int .u8) (.v (.pi glob0)) (.t 10), none, []⟩,
    ⟨some 12, .ld (.t 11) 1 false, none, []⟩,
    ⟨some 13, .ci .i64 (.t 12), none, []⟩,
    ⟨some 2, .mv (.t 13), none, []⟩])
  (.ret)))
theorem run54 : Run 54 xc54 14 [.t 2] := run_of false Tryd.func54 rfl (by kernel_rfl) rfl rfl

/-- math/bits.TrailingZeros64 -/
noncomputable def xc55 : XC :=
  .seq (.ops false [⟨some 2, .mv (.v (.i .i64 0)), none, []⟩])
  (.seq (.seq (.ops false [⟨some 3, .mv (.t 0), none, []⟩,
    ⟨some 4, .bin .eql (.t 3) (.v (.i .u64 0)), none, []⟩])
  (.cond (.t 4) (.seq (.ops false [⟨some 2, .mv (.v (.i .i64 64)), none, []⟩])
  (.ret)) (.skip)))
  (.seq (.bad)
  (.ret)))
theorem run55 : Run 55 xc55 14 [.t 2] := run_of false Tryd.func55 rfl (by kernel_rfl) rfl rfl

end GoX
/- Contracts: sets. -/
set_option autoImplicit false
set_option maxRecDepth 100000
namespace GoX
open Go GoX.M

/-- bit -/
theorem c28 (id : Int) : Sim S.P 28 [.i .u8 id] [] [] (.val (.i .u16 (bit id))) [] := by
  refine Sim.facts (fun hA _ => ?_) (fun _ _ _ => rfl)
  have h1 := rng_u8 (hA _ (List.mem_cons_self ..))
  generalize hy : bit id = y
  refine run28 0 (fun _ => false) 50 (by simp) (fun S' hS => ?_) (fun _ _ _ => rfl)
  unfold xc28
  cbv
  simp only [Ops.all, V.i.injEq, true_and, and_true]
  exact ⟨⟨h1.1⟩, by rw [← hy]; exact bit_shl h1.1 h1.2⟩

/-- Has -/
theorem c17 (s id : Int) : Sim S.P 17 [.i .u16 s, .i .u8 id] [] [] (.val (.b (has s id))) [] := by
  refine Sim.facts (fun hA _ => ?_) (fun _ _ _ => rfl)
  have h0 : isSet s := rng_u16 (hA (.i .u16 s) (by simp))
  have h1 := rng_u8 (hA (.i .u8 id) (by simp))
  generalize hy : has s id = y
  refine run17 0 (fun _ => false) 50 (by simp) (fun S' hS => ?_) (fun _ _ _ => rfl)
  unfold xc17
  cbv
  refine ⟨_, _, _, hS.sim (c28 _), ?_⟩
  generalize hb : bit id = b
  cbv
  simp only [Ops.all, and_true, V.b.injEq]
  rw [← hb, has_and h0 h1.1, ← hy]
  cases has s id <;> rfl

/-- value -/
theorem c34 (id : Int) : Sim S.P 34 [.i .u8 id] [] [] (.val (.i .u16 (bit id))) [] := by
  refine Sim.facts (fun hA _ => ?_) (fun _ _ _ => rfl)
  have h1 := rng_u8 (hA _ (List.mem_cons_self ..))
  generalize hy : bit id = y
  refine run34 0 (fun _ => false) 50 (by simp) (fun S' hS => ?_) (fun _ _ _ => rfl)
  unfold xc34
  cbv
  split <;> rename_i hc
  · cbv
    simp only [Ops.all, V.i.injEq, decide_eq_true_eq, and_true] at hc ⊢
    exact ⟨trivial, by rw [← hy, bit_big (by omega)]⟩
  · cbv
    simp only [Ops.all, decide_eq_false_iff_not] at hc
    refine VK_loop (α := Int × Int) (fun p => 0 ≤ p.1 ∧ p.1 ≤ id ∧ p.2 = bit p.1) (fun p => ⟨[(0, .i .u8 id), (3, .i .u16 p.2), (4, .i .i64 p.1)], []⟩) (fun p => (id - p.1).toNat) ?_ ⟨(0, 1), ⟨by simp, h1.1, rfl⟩, Wk.rn [] rfl (by cbv) (by cbv)⟩
    rintro ⟨i, z⟩ ⟨h2, h3, h4⟩
    simp only at h2 h3 h4
    refine hS.run 50 ?_
    cbv
    split <;> rename_i hi
    · cbv
      simp only [Ops.all, wraps, decide_eq_true_eq] at hi
      have hb := bit_succ h2 (by omega)
      have hs := bit_set (id := i + 1) (by omega)
      obtain ⟨j, hj⟩ : ∃ j, j = i + 1 := ⟨_, rfl⟩
      rw [← hj] at hb hs
      refine ⟨(j, bit j), ⟨by simp; omega, by simp; omega, rfl⟩, by simp; omega, ?_⟩
      generalize bit j = b at *
      refine Wk.rn [] rfl ?_ (by cbv)
      cbv
      simp only [Ops.all, wraps, V.i.injEq, true_and, and_true]
      exact ⟨by have := hs.1; have := hs.2; omega, by omega⟩
    · cbv
      simp only [Ops.all, wraps, decide_eq_false_iff_not] at hi
      refine hS.run 50 ?_
      cbv
      exact ⟨by rw [h4, ← hy, show i = id from by omega], trivial⟩
end GoX
/- Contracts: sets, views. -/
set_option autoImplicit false
set_option maxRecDepth 100000
namespace GoX
open Go GoX.M

/-- Without -/
theorem c18 (s id : Int) : Sim S.P 18 [.i .u16 s, .i .u8 id] [] [] (.val (.i .u16 (wout s id))) [] := by
  refine Sim.facts (fun hA _ => ?_) (fun _ _ _ => rfl)
  have h0 : isSet s := rng_u16 (hA (.i .u16 s) (by simp))
  have h1 := rng_u8 (hA (.i .u8 id) (by simp))
  generalize hy : wout s id = y
  refine run18 0 (fun _ => false) 50 (by simp) (fun S' hS => ?_) (fun _ _ _ => rfl)
  unfold xc18
  cbv
  refine ⟨_, _, _, hS.sim (c28 _), ?_⟩
  generalize hb : bit id = b
  cbv
  simp only [Ops.all, and_true, V.i.injEq, true_and]
  rw [← hb, andNot_bit h0 h1.1, ← hy]

/-- With -/
theorem c19 (s id : Int) : Sim S.P 19 [.i .u16 s, .i .u8 id] [] [] (.val (.i .u16 (wth s id))) [] := by
  refine Sim.facts (fun hA _ => ?_) (fun _ _ _ => rfl)
  have h0 : isSet s := rng_u16 (hA (.i .u16 s) (by simp))
  have h1 := rng_u8 (hA (.i .u8 id) (by simp))
  generalize hy : wth s id = y
  refine run19 0 (fun _ => false) 50 (by simp) (fun S' hS => ?_) (fun _ _ _ => rfl)
  unfold xc19
  cbv
  refine ⟨_, _, _, hS.sim (c28 _), ?_⟩
  generalize hb : bit id = b
  cbv
  simp only [Ops.all, and_true, V.i.injEq, true_and]
  rw [← hb, or_bit h0 h1.1, ← hy]

/-- the document's Has -/
theorem c25 (s id : Int) : Sim S.P 25 [.i .u16 s, .i .u8 id] [] [] (.val (.b (has s id))) [] := by
  refine Sim.facts (fun hA _ => ?_) (fun _ _ _ => rfl)
  have h0 : isSet s := rng_u16 (hA (.i .u16 s) (by simp))
  have h1 := rng_u8 (hA (.i .u8 id) (by simp))
  generalize hy : has s id = y
  refine run25 0 (fun _ => false) 50 (by simp) (fun S' hS => ?_) (fun _ _ _ => rfl)
  unfold xc25
  cbv
  split <;> rename_i hc
  · have e := g1 hc
    simp only [e]
    cbv
    refine ⟨_, _, _, hS.sim (c34 _), ?_⟩
    generalize hb : bit id = b
    cbv
    simp only [Ops.all, wraps, decide_eq_true_eq, V.b.injEq, and_true] at e ⊢
    have hp := bit_pos (id := id) (by omega)
    rw [hb] at hp
    refine ⟨⟨by omega⟩, ⟨by omega⟩, ?_⟩
    rw [← hy, has_div h0.1 (by omega), hb, Int.tdiv_eq_ediv_of_nonneg h0.1]
    have h2 : 0 ≤ s / b := Int.ediv_nonneg h0.1 (by omega)
    have h3 : s / b ≤ s := Int.ediv_le_self _ h0.1
    have := h0.2
    rw [Int.emod_eq_of_lt h2 (by omega), Int.tmod_eq_emod_of_nonneg h2]
  · have e := g0 hc
    simp only [e]
    cbv
    simp only [Ops.all, wraps, decide_eq_false_iff_not, V.b.injEq, and_true] at e ⊢
    rw [← hy, has_big h0 (by omega)]
end GoX
/- Contracts: sets, views. -/
set_option autoImplicit false
set_option maxRecDepth 100000
namespace GoX
open Go GoX.M

/-- the document's With -/
theorem c26 (s id : Int) (hi : id < 16) : Sim S.P 26 [.i .u16 s, .i .u8 id] [] [] (.val (.i .u16 (wth s id))) [] := by
  refine Sim.facts (fun hA _ => ?_) (fun _ _ _ => rfl)
  have h0 : isSet s := rng_u16 (hA (.i .u16 s) (by simp))
  have h1 := rng_u8 (hA (.i .u8 id) (by simp))
  have hw := wth_set h0 h1.1
  unfold wth at hw ⊢
  generalize hb : bit id = b at *
  generalize hh : has s id = h at *
  cases h
  · simp only [Bool.false_eq_true, if_false] at hw ⊢
    generalize hy : s + b = y at *
    refine run26 0 (fun _ => false) 50 (by simp) (fun S' hS => ?_) (fun _ _ _ => rfl)
    unfold xc26
    cbv
    refine ⟨_, _, _, hS.sim (c25 _ _), ?_⟩
    rw [hh]
    cbv
    refine ⟨_, _, _, hS.sim (c34 _), ?_⟩
    rw [hb]
    cbv
    simp only [Ops.all, wraps, V.i.injEq, true_and, and_true]
    have := hw.1; have := hw.2
    omega
  · simp only [if_true] at hw ⊢
    refine run26 0 (fun _ => false) 50 (by simp) (fun S' hS => ?_) (fun _ _ _ => rfl)
    unfold xc26
    cbv
    refine ⟨_, _, _, hS.sim (c25 _ _), ?_⟩
    rw [hh]
    cbv

/-- the document's Without -/
theorem c27 (s id : Int) (hi : id < 16) : Sim S.P 27 [.i .u16 s, .i .u8 id] [] [] (.val (.i .u16 (wout s id))) [] := by
  refine Sim.facts (fun hA _ => ?_) (fun _ _ _ => rfl)
  have h0 : isSet s := rng_u16 (hA (.i .u16 s) (by simp))
  have h1 := rng_u8 (hA (.i .u8 id) (by simp))
  have hw := wout_set h0 h1.1
  unfold wout at hw ⊢
  generalize hb : bit id = b at *
  generalize hh : has s id = h at *
  cases h
  · simp only [Bool.false_eq_true, if_false] at hw ⊢
    refine run27 0 (fun _ => false) 50 (by simp) (fun S' hS => ?_) (fun _ _ _ => rfl)
    unfold xc27
    cbv
    refine ⟨_, _, _, hS.sim (c25 _ _), ?_⟩
    rw [hh]
    cbv
  · simp only [if_true] at hw ⊢
    generalize hy : s - b = y at *
    refine run27 0 (fun _ => false) 50 (by simp) (fun S' hS => ?_) (fun _ _ _ => rfl)
    unfold xc27
    cbv
    refine ⟨_, _, _, hS.sim (c25 _ _), ?_⟩
    rw [hh]
    cbv
    refine ⟨_, _, _, hS.sim (c34 _), ?_⟩
    rw [hb]
    cbv
    simp only [Ops.all, wraps, V.i.injEq, true_and, and_true]
    have := hw.1; have := hw.2
    omega

/-- Right -/
theorem c12 (r : Roll) : Sim S.P 12 [.agg [.i .i64 r.view, .i .u16 r.members]] [] [] (.val (.b (rollRight r))) [] := by
  unfold rollRight
  obtain ⟨v, m⟩ := r
  simp only
  generalize hy : (decide (0 ≤ v) && decide (v ≤ 1000) && decide (m ≠ 0)) = y
  refine run12 0 (fun _ => false) 50 (by simp) (fun S' hS => ?_) (fun _ _ _ => rfl)
  unfold xc12
  cbv
  repeat' (split <;> rename_i hc <;> first | (have e := g1 hc; simp only [e]; clear hc; cbv) | (have e := g0 hc; simp only [e]; clear hc; cbv) | cbv)
  all_goals simp only [Ops.all, V.b.injEq, and_true] at *
  all_goals (rw [← hy]; simp [*])
end GoX
/- Contracts: the next view. -/
set_option autoImplicit false
set_option maxRecDepth 100000
namespace GoX
open Go GoX.M

def vRoll (r : Roll) : V := .agg [.i .i64 r.view, .i .u16 r.members]
def vChange (c : Change) : V := .agg [.b c.add, .i .u8 c.id]
/-- Apply -/
theorem c10 (r : Roll) (c : Change) : Sim S.P 10 [vRoll r, vChange c] [] [] (.val (.tup [vRoll (rollApply r c).1, .i .i64 (rollApply r c).2])) [] := by
  refine Sim.facts (fun hA _ => ?_) (fun _ _ _ => rfl)
  obtain ⟨v, m⟩ := r
  obtain ⟨add, id⟩ := c
  have hF : FactL [.i .i64 v, .i .u16 m] := hA (vRoll ⟨v, m⟩) (by simp)
  have hm : isSet m := rng_u16 hF.tail.head
  have hG : FactL [.b add, .i .u8 id] := hA (vChange ⟨add, id⟩) (by simp)
  have hid := rng_u8 hG.tail.head
  generalize hr : rollApply ⟨v, m⟩ ⟨add, id⟩ = y
  obtain ⟨⟨y1, y2⟩, y3⟩ := y
  unfold rollApply at hr
  refine run10 0 (fun _ => false) 60 (by simp) (fun S' hS => ?_) (fun _ _ _ => rfl)
  unfold xc10
  cbv
  refine ⟨_, _, _, hS.sim (c17 _ _), ?_⟩
  generalize hh : has m id = h at *
  cbv
  refine ⟨_, _, _, hS.sim (c12 ⟨v, m⟩), ?_⟩
  generalize hrr : rollRight ⟨v, m⟩ = rr at *
  cases rr
  · cbv
    simp only [hrr, Bool.not_false, Bool.true_or, if_true, Prod.mk.injEq, Roll.mk.injEq] at hr
    obtain ⟨⟨rfl, rfl⟩, rfl⟩ := hr
    trivial
  · cbv
    split <;> rename_i hc
    · cbv
      simp only [Ops.all, decide_eq_true_eq] at hc
      rw [if_pos (by simp [hc])] at hr
      simp only [Prod.mk.injEq, Roll.mk.injEq] at hr
      obtain ⟨⟨rfl, rfl⟩, rfl⟩ := hr
      trivial
    · simp only [Ops.all, decide_eq_false_iff_not] at hc
      have hr' := rng_i64 hF.head
      cases add <;> cases h <;> cbv
      · simp [hc] at hr
        obtain ⟨⟨rfl, rfl⟩, rfl⟩ := hr
        trivial
      · split <;> rename_i hv
        · cbv
          simp only [Ops.all, decide_eq_true_eq] at hv
          simp [hc, hv] at hr
          obtain ⟨⟨rfl, rfl⟩, rfl⟩ := hr
          trivial
        · cbv
          simp only [Ops.all, decide_eq_false_iff_not] at hv
          refine ⟨_, _, _, hS.sim (c18 _ _), ?_⟩
          generalize wout m id = w at *
          cbv
          split <;> rename_i hw
          · cbv
            simp only [Ops.all, decide_eq_true_eq] at hw
            simp [hc, hv, hw] at hr
            obtain ⟨⟨rfl, rfl⟩, rfl⟩ := hr
            trivial
          · cbv
            simp only [Ops.all, decide_eq_false_iff_not] at hw
            simp [hc, hv, hw] at hr
            obtain ⟨⟨rfl, rfl⟩, rfl⟩ := hr
            simp only [Ops.all, wraps, true_and, and_true, V.i.injEq]
            have : v ≤ 1000 := by simp [rollRight] at hrr; exact hrr.1.2
            omega
      · split <;> rename_i hv
        · cbv
          simp only [Ops.all, decide_eq_true_eq] at hv
          simp [hc, hv] at hr
          obtain ⟨⟨rfl, rfl⟩, rfl⟩ := hr
          trivial
        · cbv
          simp only [Ops.all, decide_eq_false_iff_not] at hv
          refine ⟨_, _, _, hS.sim (c18 _ _), ?_⟩
          generalize wout m id = w at *
          cbv
          refine ⟨_, _, _, hS.sim (c19 _ _), ?_⟩
          generalize wth m id = w at *
          cbv
          split <;> rename_i hw
          · cbv
            simp only [Ops.all, decide_eq_true_eq] at hw
            simp [hc, hv, hw] at hr
            obtain ⟨⟨rfl, rfl⟩, rfl⟩ := hr
            trivial
          · cbv
            simp only [Ops.all, decide_eq_false_iff_not] at hw
            simp [hc, hv, hw] at hr
            obtain ⟨⟨rfl, rfl⟩, rfl⟩ := hr
            simp only [Ops.all, wraps, true_and, and_true, V.i.injEq]
            have : v ≤ 1000 := by simp [rollRight] at hrr; exact hrr.1.2
            omega
      · simp [hc] at hr
        obtain ⟨⟨rfl, rfl⟩, rfl⟩ := hr
        trivial
end GoX
/- Contracts: the document's sets and views. -/
set_option autoImplicit false
set_option maxRecDepth 100000
namespace GoX
open Go GoX.M

/-- the document's Right -/
theorem c15 (r : Roll) : Sim S.P 15 [.agg [.i .i64 r.view, .i .u16 r.members]] [] [] (.val (.b (rollRight r))) [] := by
  unfold rollRight
  obtain ⟨v, m⟩ := r
  simp only
  generalize hy : (decide (0 ≤ v) && decide (v ≤ 1000) && decide (m ≠ 0)) = y
  refine run15 0 (fun _ => false) 50 (by simp) (fun S' hS => ?_) (fun _ _ _ => rfl)
  unfold xc15
  cbv
  repeat' (split <;> rename_i hc <;> first | (have e := g1 hc; simp only [e]; clear hc; cbv) | (have e := g0 hc; simp only [e]; clear hc; cbv) | cbv)
  all_goals simp only [Ops.all, V.b.injEq, and_true] at *
  all_goals (rw [← hy]; simp [*])

/-- the document's List -/
theorem c20 (s : Int) : Sim S.P 20 [.i .u16 s] [] [] (.val (.sl (.int .u8) (members s))) [] := by
  refine Sim.facts (fun hA _ => ?_) (fun _ _ _ => rfl)
  have h0 : isSet s := rng_u16 (hA (.i .u16 s) (by simp))
  generalize hy : members s = y
  refine run20 0 (fun id => id == 200) 50 (by simp) (fun S' hS => ?_) (fun _ _ _ => rfl)
  unfold xc20
  cbv
  refine VK_loop (α := Int × List Int) (fun p => 0 ≤ p.1 ∧ p.1 ≤ 16 ∧ p.2 = ((List.range p.1.toNat).filter fun i => s.toNat.testBit i).map Int.ofNat)
    (fun p => ⟨[(0, .i .u16 s), (3, .ow 200 (.int .u8) 0 (ln p.2)), (4, .i .i64 p.1)], [(200, .row (.int .u8) p.2)]⟩) (fun p => (16 - p.1).toNat) ?_ ⟨(0, []), ⟨by simp, by simp, rfl⟩, ?_⟩
  · rintro ⟨i, l⟩ ⟨h2, h3, h4⟩
    simp only at h2 h3 h4
    refine hS.run 50 ?_
    cbv
    split <;> rename_i hi
    · cbv
      simp only [Ops.all, decide_eq_true_eq] at hi
      refine ⟨_, _, _, hS.sim (c25 _ _), ?_⟩
      generalize hh : has s _ = hv
      have hb : has s i = hv := by
        simp only [Ops.all, wraps] at hh
        rw [← hh, Int.emod_eq_of_lt h2 (by omega)]
      have hr : List.range (i.toNat + 1) = List.range i.toNat ++ [i.toNat] := List.range_succ
      have hi2 : ((i.toNat : Nat) : Int) = i := by omega
      cases hv
      · cbv
        refine ⟨(i + 1, l), ⟨by simp; omega, by simp; omega, ?_⟩, by simp; omega, ?_⟩
        · simp only
          rw [h4, show (i + 1).toNat = i.toNat + 1 from by omega, hr, List.filter_append]
          have : s.toNat.testBit i.toNat = false := hb
          simp [this]
        · generalize hj : i + 1 = j
          refine Wk.rn [(200, 200)] (by cbv) ?_ ?_
          · cbv
            simp only [Ops.all, wraps, true_and, and_true, V.i.injEq]
            omega
          · cbv; try trivial
      · cbv
        have hl : l.length ≤ 16 := by
          rw [h4, List.length_map]
          have := List.length_filter_le (fun i => s.toNat.testBit i) (List.range i.toNat)
          rw [List.length_range] at this
          omega
        refine ⟨⟨by simp [defs]⟩, ⟨by simp [Ops.all, defs], ⟨by simp [Ops.all, defs]; omega⟩⟩, ?_⟩
        refine ⟨(i + 1, l ++ [i]), ⟨by simp; omega, by simp; omega, ?_⟩, by simp; omega, ?_⟩
        · simp only
          rw [h4, show (i + 1).toNat = i.toNat + 1 from by omega, hr, List.filter_append]
          have : s.toNat.testBit i.toNat = true := hb
          simp [this, hi2]
        · generalize hj : i + 1 = j
          generalize hk : l ++ [i] = k
          refine Wk.rn [(1152, 200)] (by cbv) ?_ ?_
          · cbv
            simp only [Ops.all, defs, wraps, true_and, and_true, V.i.injEq, V.ow.injEq]
            rw [← hk]
            refine ⟨by simp [Int.emod_eq_of_lt h2 (show i < 256 by omega)], by omega⟩
          · cbv
            simp only [Ops.all, defs, wraps, true_and, and_true, XObj.row.injEq, heq_eq_eq]
            rw [← hk]
            simp [Int.emod_eq_of_lt h2 (show i < 256 by omega)]
    · cbv
      refine hS.run 50 ?_
      cbv
      simp only [Ops.all, defs, decide_eq_false_iff_not] at hi ⊢
      refine ⟨⟨by simp⟩, ?_, trivial⟩
      have e : l = y := by
        rw [← hy, h4, show i = 16 from by omega]
        rfl
      rw [← e]; simp
  · refine Wk.trans (Wk.nsT 3 200 (.int .u8) (by omega) (by cbv)) (Wk.rn [(200, 200)] (by cbv) ?_ ?_)
    · cbv
      simp [Ops.all]
    · cbv; try trivial

/-- the document's Size -/
theorem c11 (s : Int) : Sim S.P 11 [.i .u16 s] [] [] (.val (.i .i64 (size s))) [] := by
  generalize hy : size s = y
  refine run11 0 (fun _ => false) 50 (by simp) (fun S' hS => ?_) (fun _ _ _ => rfl)
  unfold xc11
  cbv
  refine ⟨_, _, _, hS.sim (c20 _), ?_⟩
  unfold size at hy
  generalize members s = l at *
  cbv
  simp only [Ops.all, and_true, true_and, V.i.injEq]
  exact hy
end GoX
/- Contracts: the document's next view. -/
set_option autoImplicit false
set_option maxRecDepth 100000
namespace GoX
open Go GoX.M

/-- the document's Apply -/
theorem c16 (r : Roll) (c : Change) : Sim S.P 16 [vRoll r, vChange c] [] [] (.val (.tup [vRoll (rollApply r c).1, .i .i64 (rollApply r c).2])) [] := by
  refine Sim.facts (fun hA _ => ?_) (fun _ _ _ => rfl)
  obtain ⟨v, m⟩ := r
  obtain ⟨add, id⟩ := c
  have hF : FactL [.i .i64 v, .i .u16 m] := hA (vRoll ⟨v, m⟩) (by simp)
  have hm : isSet m := rng_u16 hF.tail.head
  have hG : FactL [.b add, .i .u8 id] := hA (vChange ⟨add, id⟩) (by simp)
  have hid := rng_u8 hG.tail.head
  generalize hr : rollApply ⟨v, m⟩ ⟨add, id⟩ = y
  obtain ⟨⟨y1, y2⟩, y3⟩ := y
  unfold rollApply at hr
  refine run16 0 (fun _ => false) 60 (by simp) (fun S' hS => ?_) (fun _ _ _ => rfl)
  unfold xc16
  cbv
  refine ⟨_, _, _, hS.sim (c25 _ _), ?_⟩
  generalize hh : has m id = h at *
  cbv
  refine ⟨_, _, _, hS.sim (c15 ⟨v, m⟩), ?_⟩
  generalize hrr : rollRight ⟨v, m⟩ = rr at *
  cases rr
  · cbv
    simp at hr
    obtain ⟨⟨rfl, rfl⟩, rfl⟩ := hr
    trivial
  · cbv
    split <;> rename_i hc
    · cbv
      simp only [Ops.all, decide_eq_true_eq] at hc
      rw [if_pos (by simp; omega)] at hr
      simp only [Prod.mk.injEq, Roll.mk.injEq] at hr
      obtain ⟨⟨rfl, rfl⟩, rfl⟩ := hr
      trivial
    · simp only [Ops.all, decide_eq_false_iff_not] at hc
      have hc' : ¬ 16 ≤ id := by omega
      have hr' := rng_i64 hF.head
      have hv : v ≤ 1000 ∧ m ≠ 0 := by simp [rollRight] at hrr; exact ⟨hrr.1.2, hrr.2⟩
      have hw1 : has m id = false → wth m id ≠ 0 := by
        intro he
        unfold wth; rw [he]
        have := hm.1; have := bit_pos (id := id) (by omega)
        simp; omega
      cases add <;> cases h <;> cbv
      · simp [hc'] at hr
        obtain ⟨⟨rfl, rfl⟩, rfl⟩ := hr
        trivial
      · split <;> rename_i hv
        · cbv
          simp only [Ops.all, decide_eq_true_eq] at hv
          simp [hc', hv] at hr
          obtain ⟨⟨rfl, rfl⟩, rfl⟩ := hr
          trivial
        · cbv
          simp only [Ops.all, decide_eq_false_iff_not] at hv
          refine ⟨_, _, _, hS.sim (c11 _), ?_⟩
          have hs := size_one hm hid.1 (by omega) hh
          generalize size m = sz at *
          cbv
          split <;> rename_i hw
          · cbv
            simp only [Ops.all, decide_eq_true_eq] at hw
            simp [hc', hv, hs.1 hw] at hr
            obtain ⟨⟨rfl, rfl⟩, rfl⟩ := hr
            trivial
          · cbv
            simp only [Ops.all, decide_eq_false_iff_not] at hw
            refine ⟨_, _, _, hS.sim (c27 _ _ (by omega)), ?_⟩
            have hs' : ¬ wout m id = 0 := fun h => hw (hs.2 h)
            generalize wout m id = w at *
            cbv
            simp [hc', hv, hs'] at hr
            obtain ⟨⟨rfl, rfl⟩, rfl⟩ := hr
            simp only [Ops.all, wraps, true_and, and_true, V.i.injEq]
            omega
      · split <;> rename_i hv
        · cbv
          simp only [Ops.all, decide_eq_true_eq] at hv
          simp [hc', hv] at hr
          obtain ⟨⟨rfl, rfl⟩, rfl⟩ := hr
          trivial
        · cbv
          simp only [Ops.all, decide_eq_false_iff_not] at hv
          refine ⟨_, _, _, hS.sim (c26 _ _ (by omega)), ?_⟩
          have hs' := hw1 hh
          generalize wth m id = w at *
          cbv
          simp [hc', hv, hs'] at hr
          obtain ⟨⟨rfl, rfl⟩, rfl⟩ := hr
          simp only [Ops.all, wraps, true_and, and_true, V.i.injEq]
          omega
      · simp [hc'] at hr
        obtain ⟨⟨rfl, rfl⟩, rfl⟩ := hr
        trivial
end GoX
